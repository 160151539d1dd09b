/-
  AM, part 20: rules for reckoning with names.
-/
import Derived.Test.YtahdafekballcaaGreatAm19
namespace Go.Proofs.YtahdafekballcaaGreat.AM
open Go Go.RowKit
set_option linter.unusedVariables false
set_option linter.unusedSimpArgs false

variable {P : Program} {X : Told}

def noX : Told := fun _ => none

/-- What is to come behind a piece of code. -/
def Then (P : Program) (X : Told) (b : Code) (Q : Out → St → Prop) : Out → St → Prop
  | .norm, s => W P X b s Q
  | o, s => Q o s

/-- How a body ends. -/
def EndsR (P : Program) (rs : Array ResultVar) (R : Fin → Heap → Prop) : Out → St → Prop
  | .norm, s => ∃ vs, resultsA P rs.toList s.env s.heap = some vs ∧ R (.ret (oneOf vs)) s.heap
  | .ret, s => ∃ vs, resultsA P rs.toList s.env s.heap = some vs ∧ R (.ret (oneOf vs)) s.heap
  | .panic v, s => R (.panic v) s.heap
  | .exit _, s => False

theorem Runs.ends {f : FuncId} {fn : Func} {c : Code} (hx : X f = none) (hf : P.funcs[f]? = some fn) (hb : fn.body = some c) {args : List AV} {h : Heap} {R : Fin → Heap → Prop}
    (w : W P X c ⟨Env.init args fn.ntmps, h⟩ (EndsR P fn.results R)) : ∃ r h', Runs P X f args h r h' ∧ R r h' :=
  Runs.body' hx hf hb (w.mono fun o s hq => by cases o <;> exact hq)

theorem W.seqT {a b : Code} {s : St} {Q : Out → St → Prop} (w : W P X a s (Then P X b Q)) : W P X (.seq a b) s Q :=
  W.seq (w.mono fun o s hq => by cases o <;> exact hq)

/-- A region ahead of the rest; neither the rest nor the region as a whole is looked into. -/
theorem W.seqR {id : Nat} {ops : Array Oper} {b : Code} {s : St} {Q : Out → St → Prop} (n : Nat) (hn : reserve ops = n) (w : ∀ K all, K = Then P X b Q → all = ops → WO P X all ops.toList s.heap.next s.env (s.heap.bump n) K) : W P X (.seq (.region id ops false) b) s Q :=
  W.seqT (W.region (hn ▸ w _ _ rfl rfl))

theorem W.reg {id : Nat} {ops : Array Oper} {s : St} {Q : Out → St → Prop} (n : Nat) (hn : reserve ops = n) (w : ∀ K all, K = Q → all = ops → WO P X all ops.toList s.heap.next s.env (s.heap.bump n) K) : W P X (.region id ops false) s Q :=
  W.region (hn ▸ w _ _ rfl rfl)

/-- Ahead of the rest, with what holds between. -/
theorem W.seqM {a b : Code} {s : St} {Q : Out → St → Prop} (M : Out → St → Prop) (w : W P X a s M) (k : ∀ o s', M o s' → Then P X b Q o s') : W P X (.seq a b) s Q :=
  W.seqT (w.mono k)

theorem bTF : (true == false) = false := rfl
theorem bFT : (false == true) = false := rfl
theorem Heap.bump0 (h : Heap) : h.bump 0 = h := rfl

theorem W.seqA {a b c : Code} {s : St} {Q : Out → St → Prop} (w : W P X (.seq a (.seq b c)) s Q) : W P X (.seq (.seq a b) c) s Q := by
  obtain ⟨n, o, s', k1, k2⟩ := w
  refine W.seq (W.seq ?_)
  cases n with
  | zero => simp [codeA] at k1
  | succ n =>
    simp only [codeA] at k1
    cases ha : codeA P (callA P X (n + 1)) n a s with
    | none => simp [ha] at k1
    | some q =>
      rw [ha] at k1
      obtain ⟨o1, s1⟩ := q
      refine ⟨n + 1, o1, s1, codeA_le (fun _ _ _ _ h => h) n (n + 1) _ _ _ (by omega) ha, ?_⟩
      cases o1 with
      | norm =>
        simp only at k1 ⊢
        cases n with
        | zero => simp [codeA] at k1
        | succ n =>
          simp only [codeA] at k1
          cases hb : codeA P (callA P X (n + 1 + 1)) n b s1 with
          | none => simp [hb] at k1
          | some q =>
            rw [hb] at k1
            obtain ⟨o2, s2⟩ := q
            refine ⟨n + 1 + 1, o2, s2, codeA_le (fun _ _ _ _ h => h) n _ _ _ _ (by omega) hb, ?_⟩
            cases o2 with
            | norm => exact ⟨n + 1 + 1, o, s', codeA_le (fun _ _ _ _ h => h) n _ _ _ _ (by omega) k1, k2⟩
            | exit id => simp at k1; obtain ⟨rfl, rfl⟩ := k1; exact k2
            | ret => simp at k1; obtain ⟨rfl, rfl⟩ := k1; exact k2
            | panic v => simp at k1; obtain ⟨rfl, rfl⟩ := k1; exact k2
      | exit id => simp at k1; obtain ⟨rfl, rfl⟩ := k1; exact k2
      | ret => simp at k1; obtain ⟨rfl, rfl⟩ := k1; exact k2
      | panic v => simp at k1; obtain ⟨rfl, rfl⟩ := k1; exact k2

theorem putA_into {e : Env} {d : Nat} {v : AV} (h : d < e.sz) : putA e (some d) v = some (e.put d v) := by
  have : Nat.blt d e.sz = true := by rw [Nat.blt_eq]; exact h
  simp only [putA, this, cond_true]
theorem putA_no {e : Env} {v : AV} : putA e none v = some e := rfl

theorem wantedA_none {all : Array Oper} {e : Env} {o : Oper} (h : o.guard = none) : wantedA all e o = some true := by
  simp only [wantedA, h]

theorem wantedA_some {all : Array Oper} {e : Env} {o : Oper} {j : Nat} {want : Bool} {d : Nat} {b : Bool} (h : o.guard = some (j, want)) (hd : (all[j]?).bind (·.dst) = some d) (hs : d < e.sz) (hb : e.get d = .bool b) : wantedA all e o = some (b == want) := by
  have : Nat.blt d e.sz = true := by rw [Nat.blt_eq]; exact hs
  simp only [wantedA, h, hd, this, cond_true, hb]

/-- An operation that is wanted, and makes a value. -/
theorem WO.val {all : Array Oper} {o : Oper} {os : List Oper} {fr : Nat} {e e' : Env} {h h' : Heap} {v : AV} {Q : Out → St → Prop} (hg : wantedA all e o = some true) (hx : execA P e h fr o = some (.val v h')) (hp : putA e o.dst v = some e') (w : WO P X all os (fr + 1) e' h' Q) : WO P X all (o :: os) fr e h Q := by
  simp only [WO, hg, hx, hp]; exact w

theorem WO.off {all : Array Oper} {o : Oper} {os : List Oper} {fr : Nat} {e e' : Env} {h : Heap} {Q : Out → St → Prop} (hg : wantedA all e o = some false) (hp : putA e o.dst undefA = some e') (w : WO P X all os (fr + 1) e' h Q) : WO P X all (o :: os) fr e h Q := by
  simp only [WO, hg, hp]; exact w

theorem WO.call {all : Array Oper} {o : Oper} {os : List Oper} {fr : Nat} {e e' : Env} {h h' : Heap} {f : FuncId} {args : List AV} {v : AV} {Q : Out → St → Prop} (hg : wantedA all e o = some true) (hx : execA P e h fr o = some (.enter f args)) (hr : Runs P X f args h (.ret v) h') (hp : putA e o.dst v = some e') (w : WO P X all os (fr + 1) e' h' Q) : WO P X all (o :: os) fr e h Q := by
  simp only [WO, hg, hx]; exact .inl ⟨v, h', e', hr, hp, w⟩

/-- A guard that is known. -/
theorem wantedA_by {all : Array Oper} {e : Env} {d : Option Tmp} {op : Op} {ty : TypeId} {pos : String} {after : Array Edge} {j : Nat} {want : Bool} {x : Nat} (hd : (all[j]?).bind (·.dst) = some x) (hs : x < e.sz) : wantedA all e ⟨d, op, ty, pos, after, some (j, want)⟩ = match e.get x with
    | .bool b => some (b == want)
    | .junk => none
    | _ => some false := by
  have : Nat.blt x e.sz = true := by rw [Nat.blt_eq]; exact hs
  simp only [wantedA, hd, this, cond_true]
  cases e.get x <;> rfl

theorem wantedA_free {all : Array Oper} {e : Env} {d : Option Tmp} {op : Op} {ty : TypeId} {pos : String} {after : Array Edge} : wantedA all e ⟨d, op, ty, pos, after, none⟩ = some true := rfl

/-- What a block's end asks. -/
def BlockQ (id : Nat) (Q : Out → St → Prop) : Out → St → Prop
  | .exit i, s => if i = id then Q .norm s else Q (.exit i) s
  | o, s => Q o s
theorem W.blockT {id : Nat} {b : Code} {s : St} {Q : Out → St → Prop} (w : W P X b s (BlockQ id Q)) : W P X (.block id b) s Q :=
  W.block (w.mono fun o s hq => by cases o <;> exact hq)

/-- What a loop's round asks. -/
def LoopQ (I : Nat → St → Prop) (m : Nat) (Q : Out → St → Prop) : Out → St → Prop
  | .norm, s => ∃ k, k < m ∧ I k s
  | o, s => Q o s
theorem W.whileT {b : Code} {Q : Out → St → Prop} (I : Nat → St → Prop) (h : ∀ m s, I m s → W P X b s (LoopQ I m Q)) : ∀ m s, I m s → W P X (.loop b) s Q :=
  W.while I fun m s hi => (h m s hi).mono fun o s hq => by cases o <;> exact hq

/-- A loop in a block, ahead of the rest. -/
theorem W.seqLoop {id : Nat} {b c : Code} {s : St} {Q : Out → St → Prop} (I : Nat → St → Prop) (m : Nat) (hs : I m s) (h : ∀ m s, I m s → W P X b s (LoopQ I m (BlockQ id (Then P X c Q)))) : W P X (.seq (.block id (.loop b)) c) s Q :=
  W.seqT (W.blockT (W.whileT I h m s hs))

/-! ### Regions that draw -/
def nthO : List Oper → Nat → Option Oper
  | [], _ => none
  | o :: _, 0 => some o
  | _ :: os, n + 1 => nthO os n

theorem nthO_eq : ∀ (os : List Oper) (n : Nat), nthO os n = os[n]?
  | [], _ => by simp [nthO]
  | o :: _, 0 => by simp [nthO]
  | _ :: os, n + 1 => by simp [nthO, nthO_eq os n]

def sel (os : List Oper) : List Nat → List (Nat × Oper)
  | [] => []
  | i :: r => match nthO os i with
    | some o => (i, o) :: sel os r
    | none => []

/-- The operations of a region in a given order. -/
def WD (P : Program) (X : Told) (all : Array Oper) (base : Nat) : List (Nat × Oper) → Env → Heap → (Out → St → Prop) → Prop
  | [], e, h, Q => Q .norm ⟨e, h⟩
  | (i, o) :: os, e, h, Q => match wantedA all e o with
    | none => False
    | some false => match putA e o.dst undefA with
      | none => False
      | some e' => WD P X all base os e' h Q
    | some true => match execA P e h (base + i) o with
      | none => False
      | some (.val v h') => match putA e o.dst v with
        | none => False
        | some e' => WD P X all base os e' h' Q
      | some (.enter f args) => ∃ v h' e', Runs P X f args h (.ret v) h' ∧ putA e o.dst v = some e' ∧ WD P X all base os e' h' Q
      | some (.panic v) => False

/-! ### A call, not looked into -/
def CallK (P : Program) (X : Told) (all : Array Oper) (os : List Oper) (fr : Nat) (e : Env) (h : Heap) (d : Option Tmp) (f : FuncId) (args : List AV) (Q : Out → St → Prop) : Prop :=
  (∃ v h' e', Runs P X f args h (.ret v) h' ∧ putA e d v = some e' ∧ WO P X all os fr e' h' Q) ∨ (∃ v h', Runs P X f args h (.panic v) h' ∧ Q (.panic v) ⟨e, h'⟩)

def CallD (P : Program) (X : Told) (all : Array Oper) (base : Nat) (os : List (Nat × Oper)) (e : Env) (h : Heap) (d : Option Tmp) (f : FuncId) (args : List AV) (Q : Out → St → Prop) : Prop :=
  ∃ v h' e', Runs P X f args h (.ret v) h' ∧ putA e d v = some e' ∧ WD P X all base os e' h' Q

theorem WO_nil {all : Array Oper} {fr : Nat} {e : Env} {h : Heap} {Q : Out → St → Prop} : WO P X all [] fr e h Q = Q .norm ⟨e, h⟩ := rfl
theorem WO_cons {all : Array Oper} {o : Oper} {os : List Oper} {fr : Nat} {e : Env} {h : Heap} {Q : Out → St → Prop} : WO P X all (o :: os) fr e h Q = match wantedA all e o with
    | none => False
    | some false => match putA e o.dst undefA with
      | none => False
      | some e' => WO P X all os (fr + 1) e' h Q
    | some true => match execA P e h fr o with
      | none => False
      | some (.val v h') => match putA e o.dst v with
        | none => False
        | some e' => WO P X all os (fr + 1) e' h' Q
      | some (.enter f args) => CallK P X all os (fr + 1) e h o.dst f args Q
      | some (.panic v) => Q (.panic v) ⟨e, h⟩ := by
  rw [WO]; rfl
theorem WD_nil {all : Array Oper} {base : Nat} {e : Env} {h : Heap} {Q : Out → St → Prop} : WD P X all base [] e h Q = Q .norm ⟨e, h⟩ := rfl
theorem WD_cons {all : Array Oper} {base i : Nat} {o : Oper} {os : List (Nat × Oper)} {e : Env} {h : Heap} {Q : Out → St → Prop} : WD P X all base ((i, o) :: os) e h Q = match wantedA all e o with
    | none => False
    | some false => match putA e o.dst undefA with
      | none => False
      | some e' => WD P X all base os e' h Q
    | some true => match execA P e h (base + i) o with
      | none => False
      | some (.val v h') => match putA e o.dst v with
        | none => False
        | some e' => WD P X all base os e' h' Q
      | some (.enter f args) => CallD P X all base os e h o.dst f args Q
      | some (.panic v) => False := by
  rw [WD]; rfl

theorem CallK.into {all : Array Oper} {os : List Oper} {fr : Nat} {e : Env} {h h' : Heap} {d : Nat} {f : FuncId} {args : List AV} {v : AV} {Q : Out → St → Prop} (hr : Runs P X f args h (.ret v) h') (hd : d < e.sz) (w : WO P X all os fr (e.put d v) h' Q) : CallK P X all os fr e h (some d) f args Q :=
  .inl ⟨v, h', _, hr, putA_into hd, w⟩
theorem CallD.into {all : Array Oper} {base : Nat} {os : List (Nat × Oper)} {e : Env} {h h' : Heap} {d : Nat} {f : FuncId} {args : List AV} {v : AV} {Q : Out → St → Prop} (hr : Runs P X f args h (.ret v) h') (hd : d < e.sz) (w : WD P X all base os (e.put d v) h' Q) : CallD P X all base os e h (some d) f args Q :=
  ⟨v, h', _, hr, putA_into hd, w⟩

/-- No read that may come behind an act. -/
def againFree (P : Program) (ops : Array Oper) (ord : List Nat) : Bool :=
  ord.all fun i => ord.all fun j => kindOf P (ops.getD i default) != .read || kindOf P (ops.getD j default) != .act || (depsAt (depsOf ops) j).contains i

theorem runL_in {c : CallT} {ops : Array Oper} {base : Nat} : ∀ (l : List Nat) (e : Env) (h : Heap) (tr : List Ent) (o : Out) (s : St), runL P c ops base l e h = some (tr, o, s) → ∀ x, x ∈ tr → x.i ∈ l
  | [], e, h, tr, o, s, he, x, hx => by
    simp only [runL, Option.some.injEq, Prod.mk.injEq] at he
    obtain ⟨rfl, _⟩ := he
    cases hx
  | i :: l, e, h, tr, o, s, he, x, hx => by
    have step : ∀ (q : Ent) e' h', q.i = i → (match runL P c ops base l e' h' with
          | some (tr, out, s) => some (q :: tr, out, s)
          | none => none) = some (tr, o, s) → x.i ∈ i :: l := by
      intro q e' h' hq hr
      split at hr
      · rename_i tr' out' s' hr'
        simp only [Option.some.injEq, Prod.mk.injEq] at hr
        obtain ⟨rfl, rfl, rfl⟩ := hr
        rcases List.mem_cons.mp hx with rfl | hx
        · rw [hq]; exact List.mem_cons_self
        · exact List.mem_cons_of_mem _ (runL_in l _ _ _ _ _ hr' x hx)
      · cases hr
    have stop : ∀ {v h'} {p : Bool}, (if p then some (([] : List Ent), Out.panic v, (⟨junkAll ops.toList e, h'⟩ : St)) else none) = some (tr, o, s) → x.i ∈ i :: l := by
      intro v h' p hr
      split at hr
      · simp only [Option.some.injEq, Prod.mk.injEq] at hr
        obtain ⟨rfl, _⟩ := hr
        cases hx
      · cases hr
    simp only [runL] at he
    split at he
    · cases he
    · split at he
      · cases he
      · split at he
        · cases he
        · exact step _ _ _ rfl he
      · split at he
        · cases he
        · split at he
          · cases he
          · exact step _ _ _ rfl he
        · split at he
          · split at he
            · cases he
            · exact step _ _ _ rfl he
          · exact stop he
          · cases he
        · exact stop he

theorem againAll_free {ops : Array Oper} {base : Nat} {ord : List Nat} (hf : againFree P ops ord = true) : ∀ (tr : List Ent), (∀ x, x ∈ tr → x.i ∈ ord) → againAll P ops base tr = true
  | [], _ => rfl
  | r :: tr, hin => by
    simp only [againAll, Bool.and_eq_true, List.all_eq_true]
    refine ⟨fun c hc => ?_, againAll_free hf tr fun x hx => hin x (List.mem_cons_of_mem _ hx)⟩
    unfold againFree at hf
    have h1 := List.all_eq_true.mp (List.all_eq_true.mp hf _ (hin r List.mem_cons_self)) _ (hin c (List.mem_cons_of_mem _ hc))
    unfold againOk
    simp only [Bool.or_eq_true] at h1 ⊢
    rcases h1 with (h1 | h1) | h1
    · exact .inl (.inl (.inl (.inr h1)))
    · exact .inl (.inl (.inr h1))
    · exact .inl (.inr h1)

theorem WD.runs {ops : Array Oper} {base : Nat} {Q : Out → St → Prop} : ∀ (l : List Nat) (e : Env) (h : Heap), (∀ i, i ∈ l → i < ops.size) → WD P X ops base (sel ops.toList l) e h Q → ∃ n tr o s', runL P (callA P X n) ops base l e h = some (tr, o, s') ∧ Q o s'
  | [], e, h, _, w => ⟨0, [], .norm, ⟨e, h⟩, rfl, w⟩
  | i :: l, e, h, hin, w => by
    have hi := hin i List.mem_cons_self
    have hin' := fun j hj => hin j (List.mem_cons_of_mem _ hj)
    have hget : ops[i]? = some ops[i] := Array.getElem?_eq_getElem hi
    have hsel : sel ops.toList (i :: l) = (i, ops[i]) :: sel ops.toList l := by
      have : nthO ops.toList i = some ops[i] := by rw [nthO_eq]; simp [hi]
      simp only [sel, this]
    rw [hsel] at w
    simp only [WD] at w
    split at w
    · exact w.elim
    · rename_i hw
      split at w
      · exact w.elim
      · rename_i e' hp
        obtain ⟨n, tr, o, s', k1, k2⟩ := WD.runs l _ _ hin' w
        exact ⟨n, ⟨i, true, e, h, undefA, h⟩ :: tr, o, s', by simp only [runL, hget, hw, hp, k1], k2⟩
    · rename_i hw
      split at w
      · exact w.elim
      · rename_i v h' hx
        split at w
        · exact w.elim
        · rename_i e' hp
          obtain ⟨n, tr, o, s', k1, k2⟩ := WD.runs l _ _ hin' w
          exact ⟨n, ⟨i, false, e, h, v, h'⟩ :: tr, o, s', by simp only [runL, hget, hw, hx, hp, k1], k2⟩
      · rename_i f args hx
        obtain ⟨v, h', e', ⟨m, hm⟩, hp, w⟩ := w
        obtain ⟨n, tr, o, s', k1, k2⟩ := WD.runs l _ _ hin' w
        refine ⟨max n m, ⟨i, false, e, h, v, h'⟩ :: tr, o, s', ?_, k2⟩
        have hm' := callA_le m (max n m) (by omega) _ _ _ _ hm
        have k1' := runL_le (callA_le n (max n m) (by omega)) ops base l _ _ _ k1
        simp only [runL, hget, hw, hx, hm', hp, k1']
      · exact w.elim

theorem W.regionD {id : Nat} {ops : Array Oper} {s : St} {Q : Out → St → Prop} {ord : List Nat} (hd : drawOk P ops ord = true) (hc : canon P ops = ord) (hf : againFree P ops ord = true) (hin : ord.all (fun i => Nat.blt i ops.size) = true) (w : WD P X ops s.heap.next (sel ops.toList ord) s.env (s.heap.bump (reserve ops)) Q) : W P X (.region id ops true) s Q := by
  obtain ⟨n, tr, o, s', k1, k2⟩ := WD.runs ord _ _ (fun i hi => by have := List.all_eq_true.mp hin i hi; rwa [Nat.blt_eq] at this) w
  refine ⟨n + 1, o, s', ?_, k2⟩
  have k1' := runL_le (callA_le n (n + 1) (by omega)) ops s.heap.next ord _ _ _ k1
  simp only [codeA, regionA, if_true, hc, hd, k1', againAll_free (ord := ord) hf tr (runL_in _ _ _ _ _ _ k1')]

theorem W.seqD {id : Nat} {ops : Array Oper} {b : Code} {s : St} {Q : Out → St → Prop} (n : Nat) (ord : List Nat) (hd : drawOk P ops ord = true) (hc : canon P ops = ord) (hf : againFree P ops ord = true) (hin : ord.all (fun i => Nat.blt i ops.size) = true) (hn : reserve ops = n) (w : ∀ K all, K = Then P X b Q → all = ops → WD P X all s.heap.next (sel ops.toList ord) s.env (s.heap.bump n) K) : W P X (.seq (.region id ops true) b) s Q :=
  W.seqT (W.regionD hd hc hf hin (hn ▸ w _ _ rfl rfl))

theorem W.regD {id : Nat} {ops : Array Oper} {s : St} {Q : Out → St → Prop} (n : Nat) (ord : List Nat) (hd : drawOk P ops ord = true) (hc : canon P ops = ord) (hf : againFree P ops ord = true) (hin : ord.all (fun i => Nat.blt i ops.size) = true) (hn : reserve ops = n) (w : ∀ K all, K = Q → all = ops → WD P X all s.heap.next (sel ops.toList ord) s.env (s.heap.bump n) K) : W P X (.region id ops true) s Q :=
  W.regionD hd hc hf hin (hn ▸ w _ _ rfl rfl)

theorem WO.done {all : Array Oper} {fr : Nat} {e : Env} {h : Heap} {Q : Out → St → Prop} (w : Q .norm ⟨e, h⟩) : WO P X all [] fr e h Q := w

/-! ### A closed function that has been run once -/
def toldB (f0 : FuncId) (b : Bool) : Told := fun f => bif Nat.beq f f0 then some (fun args h => match args with
  | [] => some (.ret (.bool b), h)
  | _ :: _ => none) else none

theorem toldB_is {f0 : FuncId} {b : Bool} {f : FuncId} {g : List AV → Heap → Option (Fin × Heap)} (h : toldB f0 b f = some g) : f = f0 ∧ g = fun args h => match args with
  | [] => some (.ret (.bool b), h)
  | _ :: _ => none := by
  unfold toldB at h
  cases hb : Nat.beq f f0 with
  | false => rw [hb] at h; simp at h
  | true => rw [hb] at h; simp only [cond_true, Option.some.injEq] at h; exact ⟨Nat.eq_of_beq_eq_true hb, h.symm⟩

theorem toldB_hu (f0 : FuncId) (b : Bool) : ToldHU (toldB f0 b) := by
  intro f g hg args h r h' E h2 he u
  obtain ⟨_, rfl⟩ := toldB_is hg
  cases args with
  | nil =>
    simp only [Option.some.injEq, Prod.mk.injEq] at he
    obtain ⟨rfl, rfl⟩ := he
    exact ⟨h2, rfl, u⟩
  | cons a l => cases he

theorem toldB_ok (hm : P.follows .mixedOrders = true) (hP : ∀ (f : FuncId) (fn : Func), P.funcs[f]? = some fn → fn.body.isNone = false → (fn.name == "runtime.NumGoroutine") = false) {f0 : FuncId} {b : Bool} {n n0 : Nat} {h0 : Heap} (e : callA P noX n f0 [] ⟨n0, .nil⟩ = some (.ret (.bool b), h0)) (hbody : ∃ fn c, P.funcs[f0]? = some fn ∧ fn.body = some c) : ToldOK P (toldB f0 b) := by
  intro f g hg args h r h' he
  obtain ⟨rfl, rfl⟩ := toldB_is hg
  rcases callA_ok hm hP told_none_ok told_none_hu n f [] ⟨n0, .nil⟩ _ _ e with ok | ⟨_, _, _, ⟨fn, q1, q2⟩, _⟩
  case inr =>
    obtain ⟨fn', c, q3, q4⟩ := hbody
    rw [q1] at q3
    cases q3
    rw [q2] at q4
    cases q4
  refine ⟨ok.1, fun B w0 ρ w vs S hv => ?_⟩
  cases args with
  | cons a l => cases he
  | nil =>
    simp only [Option.some.injEq, Prod.mk.injEq] at he
    obtain ⟨rfl, rfl⟩ := he
    have hv0 : vs.toList = [] := by cases hvs : vs.toList with
      | nil => rfl
      | cons a l => rw [hvs] at hv; cases hv
    refine (ok.2 w.heap.size w (fun _ => none) w vs (Sim.start w n0) (by rw [hv0]; exact .nil)).mono fun en w' hp => ?_
    obtain ⟨ρ', k1, _, _, _, k5⟩ := hp
    have hb := k1.below
    have hsz : B ≤ w.heap.size := Nat.le_trans S.bsize S.below.size
    refine ⟨ρ, S.world (S.below.trans (hb.mono hsz)) (fun k o hk => ?_), fun _ _ h => h, fun _ _ => rfl, Nat.le_refl _, ?_⟩
    · have hlt : k < w.heap.size := by
        rcases Nat.lt_or_ge k w.heap.size with q | q
        · exact q
        · rw [Array.getElem?_eq_none q] at hk; cases hk
      rw [hb.block k hlt]; exact hk
    · cases en with
      | returned v =>
        have : VR ρ' (.bool b) v := k5
        cases this
        exact .bool b
      | panicked ch => exact k5.elim
      | outgrown => exact k5.elim

end Go.Proofs.YtahdafekballcaaGreat.AM
