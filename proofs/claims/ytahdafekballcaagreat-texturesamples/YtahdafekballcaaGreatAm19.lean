/-
  AM, part 19: runs, by rules.
-/
import Derived.Test.YtahdafekballcaaGreatAm18
namespace Go.Proofs.YtahdafekballcaaGreat.AM
open Go Go.RowKit
set_option linter.unusedVariables false
set_option linter.unusedSimpArgs false

variable {P : Program} {X : Told}

/-! ### More rounds come to the same -/
def CallLe (c c2 : CallT) : Prop := ∀ f args h r, c f args h = some r → c2 f args h = some r

theorem opsA_le {c c2 : CallT} (hc : CallLe c c2) (all : Array Oper) : ∀ (os : List Oper) (fr : Nat) (e : Env) (h : Heap) (r : Out × St), opsA P c all os fr e h = some r → opsA P c2 all os fr e h = some r
  | [], _, _, _, _, he => he
  | o :: os, fr, e, h, r, he => by
    simp only [opsA] at he ⊢
    split at he
    · simp at he
    · split at he
      · exact opsA_le hc all os _ _ _ _ he
      · simp at he
    · split at he
      · simp at he
      · split at he
        · exact opsA_le hc all os _ _ _ _ he
        · simp at he
      · split at he
        · rename_i hcall
          rw [hc _ _ _ _ hcall]
          simp only
          split at he
          · exact opsA_le hc all os _ _ _ _ he
          · simp at he
        · rename_i hcall
          rw [hc _ _ _ _ hcall]
          exact he
        · simp at he
      · exact he

theorem runL_le {c c2 : CallT} (hc : CallLe c c2) (ops : Array Oper) (base : Nat) : ∀ (l : List Nat) (e : Env) (h : Heap) (r : List Ent × Out × St), runL P c ops base l e h = some r → runL P c2 ops base l e h = some r
  | [], _, _, _, he => he
  | i :: l, e, h, r, he => by
    simp only [runL] at he ⊢
    split at he
    · simp at he
    · split at he
      · simp at he
      · split at he
        · simp at he
        · split at he
          · rename_i hr; rw [runL_le hc ops base l _ _ _ hr]; exact he
          · simp at he
      · split at he
        · simp at he
        · split at he
          · simp at he
          · split at he
            · rename_i hr; rw [runL_le hc ops base l _ _ _ hr]; exact he
            · simp at he
        · split at he
          · rename_i hcall
            rw [hc _ _ _ _ hcall]
            simp only
            split at he
            · simp at he
            · split at he
              · rename_i hr; rw [runL_le hc ops base l _ _ _ hr]; exact he
              · simp at he
          · rename_i hcall
            rw [hc _ _ _ _ hcall]
            exact he
          · simp at he
        · exact he

theorem regionA_le {c c2 : CallT} (hc : CallLe c c2) {ops : Array Oper} {d : Bool} {s : St} {r : Out × St} (he : regionA P c ops d s = some r) : regionA P c2 ops d s = some r := by
  unfold regionA at he ⊢
  split at he
  · rename_i hd; rw [if_pos hd]
    split at he
    · rename_i hok; rw [if_pos hok]
      split at he
      · rename_i hr; rw [runL_le hc _ _ _ _ _ _ hr]; exact he
      · simp at he
    · simp at he
  · rename_i hd; rw [if_neg hd]
    exact opsA_le hc _ _ _ _ _ _ he

theorem codeA_le {c c2 : CallT} (hc : CallLe c c2) : ∀ (n m : Nat) (x : Code) (s : St) (r : Out × St), n ≤ m → codeA P c n x s = some r → codeA P c2 m x s = some r := by
  intro n
  induction n with
  | zero => intro m x s r _ he; simp [codeA] at he
  | succ n ih =>
    intro m x s r hm he
    obtain ⟨m, rfl⟩ : ∃ k, m = k + 1 := ⟨m - 1, by omega⟩
    have hm : n ≤ m := by omega
    cases x <;> simp only [codeA] at he ⊢
    case skip => exact he
    case label l => exact he
    case region id ops d => exact regionA_le hc he
    case seq a b =>
      cases ha : codeA P c n a s with
      | none => simp [ha] at he
      | some q =>
        rw [ha] at he
        rw [ih m a s q hm ha]
        obtain ⟨o1, s1⟩ := q
        cases o1 <;> first | exact ih m b s1 r hm he | exact he
    case cond cc a b =>
      split at he
      · exact ih m a s r hm he
      · exact ih m b s r hm he
      · simp at he
    case block id b =>
      cases ha : codeA P c n b s with
      | none => simp [ha] at he
      | some q => rw [ha] at he; rw [ih m b s q hm ha]; exact he
    case loop b =>
      cases ha : codeA P c n b s with
      | none => simp [ha] at he
      | some q =>
        rw [ha] at he
        rw [ih m b s q hm ha]
        obtain ⟨o1, s1⟩ := q
        cases o1 <;> first | exact ih m (.loop b) s1 r hm he | exact he
    case exit id => exact he
    case scope b => exact ih m b s r hm he
    case ret => exact he
    all_goals (simp at he)

theorem callA_le : ∀ (n m : Nat), n ≤ m → CallLe (callA P X n) (callA P X m) := by
  intro n
  induction n with
  | zero => intro m _ f args h r he; simp [callA] at he
  | succ n ih =>
    intro m hm f args h r he
    obtain ⟨m, rfl⟩ : ∃ k, m = k + 1 := ⟨m - 1, by omega⟩
    simp only [callA] at he ⊢
    split at he
    · exact he
    · split at he
      · split at he
        · next c hb =>
          unfold bodyA at he ⊢
          split at he
          · rename_i s1 hc
            rw [codeA_le (ih m (by omega)) n m _ _ _ (by omega) hc]; exact he
          · rename_i s1 hc
            rw [codeA_le (ih m (by omega)) n m _ _ _ (by omega) hc]; exact he
          · rename_i v s1 hc
            rw [codeA_le (ih m (by omega)) n m _ _ _ (by omega) hc]; exact he
          · simp at he
        · exact he
      · simp at he

/-! ### Runs -/
/-- A call comes to this. -/
def Runs (P : Program) (X : Told) (f : FuncId) (args : List AV) (h : Heap) (r : Fin) (h' : Heap) : Prop := ∃ n, callA P X n f args h = some (r, h')

/-- A piece of code comes to what Q says. -/
def W (P : Program) (X : Told) (c : Code) (s : St) (Q : Out → St → Prop) : Prop := ∃ n o s', codeA P (callA P X n) n c s = some (o, s') ∧ Q o s'

/-- The operations of a region, in the order of the text. -/
def WO (P : Program) (X : Told) (all : Array Oper) : List Oper → Nat → Env → Heap → (Out → St → Prop) → Prop
  | [], _, e, h, Q => Q .norm ⟨e, h⟩
  | o :: os, fr, e, h, Q => match wantedA all e o with
    | none => False
    | some false => match putA e o.dst undefA with
      | none => False
      | some e' => WO P X all os (fr + 1) e' h Q
    | some true => match execA P e h fr o with
      | none => False
      | some (.val v h') => match putA e o.dst v with
        | none => False
        | some e' => WO P X all os (fr + 1) e' h' Q
      | some (.enter f args) => (∃ v h' e', Runs P X f args h (.ret v) h' ∧ putA e o.dst v = some e' ∧ WO P X all os (fr + 1) e' h' Q) ∨ (∃ v h', Runs P X f args h (.panic v) h' ∧ Q (.panic v) ⟨e, h'⟩)
      | some (.panic v) => Q (.panic v) ⟨e, h⟩

theorem WO.ops (all : Array Oper) : ∀ (os : List Oper) (fr : Nat) (e : Env) (h : Heap) (Q : Out → St → Prop), WO P X all os fr e h Q → ∃ n o s', opsA P (callA P X n) all os fr e h = some (o, s') ∧ Q o s'
  | [], fr, e, h, Q, w => ⟨0, .norm, ⟨e, h⟩, rfl, w⟩
  | o :: os, fr, e, h, Q, w => by
    simp only [WO] at w
    split at w
    · exact w.elim
    · rename_i hw
      split at w
      · exact w.elim
      · rename_i e' hp
        obtain ⟨n, o1, s1, k1, k2⟩ := WO.ops all os _ _ _ _ w
        exact ⟨n, o1, s1, by simp only [opsA, hw, hp]; exact k1, k2⟩
    · rename_i hw
      split at w
      · exact w.elim
      · rename_i v h' hx
        split at w
        · exact w.elim
        · rename_i e' hp
          obtain ⟨n, o1, s1, k1, k2⟩ := WO.ops all os _ _ _ _ w
          exact ⟨n, o1, s1, by simp only [opsA, hw, hx, hp]; exact k1, k2⟩
      · rename_i f args hx
        rcases w with ⟨v, h', e', ⟨m, hm⟩, hp, w⟩ | ⟨v, h', ⟨m, hm⟩, w⟩
        · obtain ⟨n, o1, s1, k1, k2⟩ := WO.ops all os _ _ _ _ w
          refine ⟨max n m, o1, s1, ?_, k2⟩
          have hm' := callA_le m (max n m) (by omega) _ _ _ _ hm
          simp only [opsA, hw, hx, hm', hp]
          exact opsA_le (callA_le n (max n m) (by omega)) all os _ _ _ _ k1
        · exact ⟨m, _, _, by simp only [opsA, hw, hx, hm], w⟩
      · rename_i v hx
        exact ⟨0, _, _, by simp only [opsA, hw, hx], w⟩

theorem W.mono {c : Code} {s : St} {Q Q' : Out → St → Prop} (w : W P X c s Q) (h : ∀ o s', Q o s' → Q' o s') : W P X c s Q' := by
  obtain ⟨n, o, s', k1, k2⟩ := w
  exact ⟨n, o, s', k1, h _ _ k2⟩

theorem W.region {id : Nat} {ops : Array Oper} {s : St} {Q : Out → St → Prop} (w : WO P X ops ops.toList s.heap.next s.env (s.heap.bump (reserve ops)) Q) : W P X (.region id ops false) s Q := by
  obtain ⟨n, o, s', k1, k2⟩ := WO.ops ops _ _ _ _ _ w
  refine ⟨n + 1, o, s', ?_, k2⟩
  simp only [codeA, regionA, Bool.false_eq_true, if_false]
  exact opsA_le (callA_le n (n + 1) (by omega)) ops _ _ _ _ _ k1

theorem W.skip {s : St} {Q : Out → St → Prop} (h : Q .norm s) : W P X .skip s Q := ⟨1, .norm, s, rfl, h⟩
theorem W.label {l : Nat} {s : St} {Q : Out → St → Prop} (h : Q .norm s) : W P X (.label l) s Q := ⟨1, .norm, s, rfl, h⟩
theorem W.exit {id : Nat} {s : St} {Q : Out → St → Prop} (h : Q (.exit id) s) : W P X (.exit id) s Q := ⟨1, .exit id, s, rfl, h⟩
theorem W.ret {s : St} {Q : Out → St → Prop} (h : Q .ret s) : W P X .ret s Q := ⟨1, .ret, s, rfl, h⟩

theorem W.seq {a b : Code} {s : St} {Q : Out → St → Prop} (w : W P X a s fun o s' => match o with | .norm => W P X b s' Q | o => Q o s') : W P X (.seq a b) s Q := by
  obtain ⟨n, o, s1, k1, k2⟩ := w
  cases o with
  | norm =>
    obtain ⟨m, o2, s2, k3, k4⟩ := k2
    refine ⟨max n m + 1, o2, s2, ?_, k4⟩
    simp only [codeA]
    rw [codeA_le (callA_le n (max n m + 1) (by omega)) n (max n m) _ _ _ (by omega) k1]
    exact codeA_le (callA_le m (max n m + 1) (by omega)) m (max n m) _ _ _ (by omega) k3
  | exit id => exact ⟨n + 1, _, s1, by simp only [codeA]; rw [codeA_le (callA_le n (n + 1) (by omega)) n n _ _ _ (Nat.le_refl _) k1], k2⟩
  | ret => exact ⟨n + 1, _, s1, by simp only [codeA]; rw [codeA_le (callA_le n (n + 1) (by omega)) n n _ _ _ (Nat.le_refl _) k1], k2⟩
  | panic v => exact ⟨n + 1, _, s1, by simp only [codeA]; rw [codeA_le (callA_le n (n + 1) (by omega)) n n _ _ _ (Nat.le_refl _) k1], k2⟩

theorem W.condT {c : Operand} {x y : Code} {s : St} {Q : Out → St → Prop} (hc : opv s.env c = some (.bool true)) (w : W P X x s Q) : W P X (.cond c x y) s Q := by
  obtain ⟨n, o, s1, k1, k2⟩ := w
  exact ⟨n + 1, o, s1, by simp only [codeA, hc]; exact codeA_le (callA_le n (n + 1) (by omega)) n n _ _ _ (Nat.le_refl _) k1, k2⟩
theorem W.condF {c : Operand} {x y : Code} {s : St} {Q : Out → St → Prop} (hc : opv s.env c = some (.bool false)) (w : W P X y s Q) : W P X (.cond c x y) s Q := by
  obtain ⟨n, o, s1, k1, k2⟩ := w
  exact ⟨n + 1, o, s1, by simp only [codeA, hc]; exact codeA_le (callA_le n (n + 1) (by omega)) n n _ _ _ (Nat.le_refl _) k1, k2⟩

theorem W.cond {c : Operand} {x y : Code} {s : St} {Q : Out → St → Prop} {b : Bool} (hc : opv s.env c = some (.bool b)) (w1 : b = true → W P X x s Q) (w2 : b = false → W P X y s Q) : W P X (.cond c x y) s Q := by
  cases b with
  | true => exact W.condT hc (w1 rfl)
  | false => exact W.condF hc (w2 rfl)

theorem W.block {id : Nat} {b : Code} {s : St} {Q : Out → St → Prop} (w : W P X b s fun o s' => match o with | .exit i => if i = id then Q .norm s' else Q (.exit i) s' | o => Q o s') : W P X (.block id b) s Q := by
  obtain ⟨n, o, s1, k1, k2⟩ := w
  have k1' := codeA_le (callA_le n (n + 1) (by omega)) n n _ _ _ (Nat.le_refl _) k1
  cases o with
  | exit i =>
    simp only at k2
    by_cases hi : i = id
    · rw [if_pos hi] at k2
      exact ⟨n + 1, .norm, s1, by simp only [codeA]; rw [k1']; simp only [if_pos hi], k2⟩
    · rw [if_neg hi] at k2
      exact ⟨n + 1, .exit i, s1, by simp only [codeA]; rw [k1']; simp only [if_neg hi], k2⟩
  | norm => exact ⟨n + 1, _, s1, by simp only [codeA]; rw [k1'], k2⟩
  | ret => exact ⟨n + 1, _, s1, by simp only [codeA]; rw [k1'], k2⟩
  | panic v => exact ⟨n + 1, _, s1, by simp only [codeA]; rw [k1'], k2⟩

theorem W.scope {b : Code} {s : St} {Q : Out → St → Prop} (w : W P X b s Q) : W P X (.scope b) s Q := by
  obtain ⟨n, o, s1, k1, k2⟩ := w
  exact ⟨n + 1, o, s1, by simp only [codeA]; exact codeA_le (callA_le n (n + 1) (by omega)) n n _ _ _ (Nat.le_refl _) k1, k2⟩

theorem W.loop {b : Code} {s : St} {Q : Out → St → Prop} (w : W P X b s fun o s' => match o with | .norm => W P X (.loop b) s' Q | o => Q o s') : W P X (.loop b) s Q := by
  obtain ⟨n, o, s1, k1, k2⟩ := w
  cases o with
  | norm =>
    obtain ⟨m, o2, s2, k3, k4⟩ := k2
    refine ⟨max n m + 1, o2, s2, ?_, k4⟩
    simp only [codeA]
    rw [codeA_le (callA_le n (max n m + 1) (by omega)) n (max n m) _ _ _ (by omega) k1]
    exact codeA_le (callA_le m (max n m + 1) (by omega)) m (max n m) _ _ _ (by omega) k3
  | exit id => exact ⟨n + 1, _, s1, by simp only [codeA]; rw [codeA_le (callA_le n (n + 1) (by omega)) n n _ _ _ (Nat.le_refl _) k1], k2⟩
  | ret => exact ⟨n + 1, _, s1, by simp only [codeA]; rw [codeA_le (callA_le n (n + 1) (by omega)) n n _ _ _ (Nat.le_refl _) k1], k2⟩
  | panic v => exact ⟨n + 1, _, s1, by simp only [codeA]; rw [codeA_le (callA_le n (n + 1) (by omega)) n n _ _ _ (Nat.le_refl _) k1], k2⟩

/-- A loop: what holds at its head, and a number that goes down. -/
theorem W.while {b : Code} {Q : Out → St → Prop} (I : Nat → St → Prop) (h : ∀ m s, I m s → W P X b s fun o s' => match o with | .norm => ∃ k, k < m ∧ I k s' | o => Q o s') : ∀ m s, I m s → W P X (.loop b) s Q := by
  intro m
  induction m using Nat.strongRecOn with
  | _ m ih =>
    intro s hi
    refine W.loop (W.mono (h m s hi) fun o s' hq => ?_)
    cases o with
    | norm =>
      obtain ⟨k, hk, hi'⟩ := hq
      exact ih k hk s' hi'
    | exit id => exact hq
    | ret => exact hq
    | panic v => exact hq

/-- A function's body. -/
theorem Runs.body {f : FuncId} {fn : Func} {c : Code} (hx : X f = none) (hf : P.funcs[f]? = some fn) (hb : fn.body = some c) {args : List AV} {h : Heap} {r : Fin} {h' : Heap}
    (w : W P X c ⟨Env.init args fn.ntmps, h⟩ fun o s => match o with
      | .norm | .ret => ∃ vs, resultsA P fn.results.toList s.env s.heap = some vs ∧ r = .ret (oneOf vs) ∧ h' = s.heap
      | .panic v => r = .panic v ∧ h' = s.heap
      | .exit _ => False) : Runs P X f args h r h' := by
  obtain ⟨n, o, s, k1, k2⟩ := w
  refine ⟨n + 1, ?_⟩
  simp only [callA, hx, hf, hb, bodyA, k1]
  cases o with
  | norm =>
    obtain ⟨vs, q1, rfl, rfl⟩ := k2
    simp only [q1, Option.map_some]
  | ret =>
    obtain ⟨vs, q1, rfl, rfl⟩ := k2
    simp only [q1, Option.map_some]
  | panic v =>
    obtain ⟨rfl, rfl⟩ := k2
    rfl
  | exit id => exact k2.elim

/-- The same, where the end is not known ahead. -/
theorem Runs.body' {f : FuncId} {fn : Func} {c : Code} (hx : X f = none) (hf : P.funcs[f]? = some fn) (hb : fn.body = some c) {args : List AV} {h : Heap} {R : Fin → Heap → Prop}
    (w : W P X c ⟨Env.init args fn.ntmps, h⟩ fun o s => match o with
      | .norm | .ret => ∃ vs, resultsA P fn.results.toList s.env s.heap = some vs ∧ R (.ret (oneOf vs)) s.heap
      | .panic v => R (.panic v) s.heap
      | .exit _ => False) : ∃ r h', Runs P X f args h r h' ∧ R r h' := by
  obtain ⟨n, o, s, k1, k2⟩ := w
  have key : ∀ r h', (match o with
      | .norm | .ret => ∃ vs, resultsA P fn.results.toList s.env s.heap = some vs ∧ r = .ret (oneOf vs) ∧ h' = s.heap
      | .panic v => r = .panic v ∧ h' = s.heap
      | .exit _ => False) → Runs P X f args h r h' := fun r h' hh => Runs.body hx hf hb ⟨n, o, s, k1, hh⟩
  cases o with
  | norm => obtain ⟨vs, q1, q2⟩ := k2; exact ⟨_, _, key _ _ ⟨vs, q1, rfl, rfl⟩, q2⟩
  | ret => obtain ⟨vs, q1, q2⟩ := k2; exact ⟨_, _, key _ _ ⟨vs, q1, rfl, rfl⟩, q2⟩
  | panic v => exact ⟨_, _, key _ _ ⟨rfl, rfl⟩, k2⟩
  | exit id => exact k2.elim

/-- By reckoning. -/
theorem Runs.of {n : Nat} {f : FuncId} {args : List AV} {h : Heap} {r : Fin} {h' : Heap} (e : callA P X n f args h = some (r, h')) : Runs P X f args h r h' := ⟨n, e⟩

/-! ### From a run to the model -/
theorem Sim.start (w : World) (n : Nat) : Sim w.heap.size w (fun _ => none) ⟨n, .nil⟩ w :=
  { below := Below.refl _ _, bsize := Nat.le_refl _, dom := fun _ _ h => by cases h
    blk := fun b cs md a h => by cases h
    map := fun b cs md h => by cases h
    sep := fun b cs pl anc p b2 o2 p2 h => by cases h
    msep := fun r es c p b2 o2 p2 h => by cases h
    ancl := fun b cs md a h => by cases h }

/-- What the world holds may be known, to be read. -/
theorem Sim.addRo {B : Nat} {w0 w : World} {ρ : Rho} {h : Heap} (S : Sim B w0 ρ h w) {b : Nat} (hf : ρ b = none) (hl : b < h.next) {p : Pos} {T : TypeId} {cc : Array Value} {fz : Nat × Nat} {l : List AV} (hb : w.heap[p.blk]? = some (.cells cc T fz))
    (hr : p.base + p.room = cc.size) (hle : l.length ≤ p.room) (hv : VRL ρ l ((cc.toList.drop p.base).take l.length)) (hno : ∀ c o q, h.get c = some o → ρ c = some q → (∀ cs md a, o = .cells cs md a → ∀ pl, md ≠ .rw pl) ∧ (∀ es k, o ≠ .map es k)) :
    Sim B w0 (ρ.put b p) (h.put b (some (.cells l .ro []))) w := by
  have hE := Rho.ext_put (ρ := ρ) (b := b) p hf
  have hput : ∀ c q, ρ.put b p c = some q → (c = b ∧ q = p) ∨ (c ≠ b ∧ ρ c = some q) := fun c q hc => by
    unfold Rho.put at hc
    split at hc
    · rename_i e; exact .inl ⟨e.symm, (Option.some.inj hc).symm⟩
    · rename_i e; exact .inr ⟨fun e' => e e'.symm, hc⟩
  have hget : ∀ c o, (h.put b (some (.cells l .ro []))).get c = some o → (c = b ∧ o = .cells l .ro []) ∨ (c ≠ b ∧ h.get c = some o) := fun c o hc => by
    rw [Heap.get_put] at hc
    split at hc
    · rename_i e; exact .inl ⟨e.symm, (Option.some.inj hc).symm⟩
    · rename_i e; exact .inr ⟨fun e' => e e'.symm, hc⟩
  refine { below := S.below, bsize := S.bsize, dom := ?_, blk := ?_, map := ?_, sep := ?_, msep := ?_, ancl := ?_ }
  · intro c q hc
    rcases hput c q hc with ⟨rfl, _⟩ | ⟨_, hc⟩
    · exact hl
    · exact S.dom c q hc
  · intro c cs md a hc
    rcases hget c _ hc with ⟨rfl, e⟩ | ⟨hne, hc⟩
    · injection e with e1 e2 e3
      subst e1 e2 e3
      exact ⟨p, T, cc, fz, by simp [Rho.put], hb, hr, hle, hv.mono hE, fun _ h => by cases h⟩
    · obtain ⟨q, T', cc', fz', h1, h2, h3, h4, h5, h6⟩ := S.blk c cs md a hc
      exact ⟨q, T', cc', fz', hE _ _ h1, h2, h3, h4, h5.mono hE, h6⟩
  · intro c es k hc
    rcases hget c _ hc with ⟨rfl, e⟩ | ⟨hne, hc⟩
    · cases e
    · obtain ⟨q, es', h1, h2, h3, h4⟩ := S.map c es k hc
      exact ⟨q, es', hE _ _ h1, h2, h3.mono hE, h4⟩
  · intro c cs pl anc q b2 o2 q2 h1 h2 h3 h4 h5 h6
    rcases hget c _ h1 with ⟨rfl, e⟩ | ⟨hne, h1'⟩
    · cases e
    · rcases hput _ _ h2 with ⟨e, _⟩ | ⟨_, h2'⟩
      · exact absurd e hne
      · exact absurd rfl ((hno c _ q h1' h2').1 cs _ anc rfl pl)
  · intro c es k q b2 o2 q2 h1 h2 h3 h4 h5
    rcases hget c _ h1 with ⟨rfl, e⟩ | ⟨hne, h1'⟩
    · cases e
    · rcases hput _ _ h2 with ⟨e, _⟩ | ⟨_, h2'⟩
      · exact absurd e hne
      · exact absurd rfl ((hno c _ q h1' h2').2 es k)
  · intro c cs md a hc x hx
    rcases hget c _ hc with ⟨rfl, e⟩ | ⟨hne, hc⟩
    · injection e with e1 e2 e3
      subst e3; cases hx
    · exact S.ancl c cs md a hc x hx

/-- A name for a place of which nothing is known. -/
theorem Sim.addRho {B : Nat} {w0 w : World} {ρ : Rho} {h : Heap} (S : Sim B w0 ρ h w) {b : Nat} (hf : ρ b = none) (hl : b < h.next) (p : Pos) : Sim B w0 (ρ.put b p) h w := by
  have hE := Rho.ext_put (ρ := ρ) (b := b) p hf
  have hput : ∀ c q, ρ.put b p c = some q → (c = b ∧ q = p) ∨ (c ≠ b ∧ ρ c = some q) := fun c q hc => by
    unfold Rho.put at hc
    split at hc
    · rename_i e; exact .inl ⟨e.symm, (Option.some.inj hc).symm⟩
    · rename_i e; exact .inr ⟨fun e' => e e'.symm, hc⟩
  have hno : ∀ c o, h.get c = some o → c ≠ b := fun c o hc e => by
    subst e
    cases o with
    | cells cs md a => obtain ⟨q, _, _, _, h1, _⟩ := S.blk _ _ _ _ hc; rw [hf] at h1; cases h1
    | map es k => obtain ⟨q, _, h1, _⟩ := S.map _ _ _ hc; rw [hf] at h1; cases h1
  have hold : ∀ c o q, h.get c = some o → ρ.put b p c = some q → ρ c = some q := fun c o q hc hq => by
    rcases hput c q hq with ⟨e, _⟩ | ⟨_, hq⟩
    · exact absurd e (hno c o hc)
    · exact hq
  refine { below := S.below, bsize := S.bsize, dom := ?_, blk := ?_, map := ?_, sep := ?_, msep := ?_, ancl := S.ancl }
  · intro c q hc
    rcases hput c q hc with ⟨rfl, _⟩ | ⟨_, hc⟩
    · exact hl
    · exact S.dom c q hc
  · intro c cs md a hc
    obtain ⟨q, T', cc', fz', h1, h2, h3, h4, h5, h6⟩ := S.blk c cs md a hc
    exact ⟨q, T', cc', fz', hE _ _ h1, h2, h3, h4, h5.mono hE, h6⟩
  · intro c es k hc
    obtain ⟨q, es', h1, h2, h3, h4⟩ := S.map c es k hc
    exact ⟨q, es', hE _ _ h1, h2, h3.mono hE, h4⟩
  · intro c cs pl anc q b2 o2 q2 h1 h2 h3 h4 h5 h6
    exact S.sep c cs pl anc q b2 o2 q2 h1 (hold _ _ _ h1 h2) h3 (hold _ _ _ h3 h4) h5 h6
  · intro c es k q b2 o2 q2 h1 h2 h3 h4 h5
    exact S.msep c es k q b2 o2 q2 h1 (hold _ _ _ h1 h2) h3 (hold _ _ _ h3 h4) h5

theorem told_none_ok : ToldOK P (fun _ => none) := fun _ _ h => by cases h
theorem told_none_hu : ToldHU (fun _ => none) := fun _ _ h => by cases h

/-- A run that answers true. -/
theorem Runs.calls (hm : P.follows .mixedOrders = true) (hP : ∀ (f : FuncId) (fn : Func), P.funcs[f]? = some fn → fn.body.isNone = false → (fn.name == "runtime.NumGoroutine") = false) (hX : ToldOK P X) (hXu : ToldHU X)
    {f : FuncId} {args : List AV} {h h' : Heap} {b : Bool} (r : Runs P X f args h (.ret (.bool b)) h') {w : World} {ρ : Rho} {vs : Array Value} (S : Sim w.heap.size w ρ h w) (hv : VRL ρ args vs.toList) (hbody : ∃ fn c, P.funcs[f]? = some fn ∧ fn.body = some c) :
    Calls P f vs w fun e w' => e = .returned (.bool b) ∧ Below w.heap.size w w' := by
  obtain ⟨n, hn⟩ := r
  rcases callA_ok hm hP hX hXu n f args h _ h' hn with ok | ⟨_, _, _, ⟨fn, q1, q2⟩, _⟩
  case inr =>
    obtain ⟨fn', c, q3, q4⟩ := hbody
    rw [q1] at q3
    cases q3
    rw [q2] at q4
    cases q4
  refine (ok.2 _ w ρ w vs S hv).mono fun e w' hp => ?_
  obtain ⟨ρ', k1, _, _, _, k5⟩ := hp
  cases e with
  | returned v =>
    have : VR ρ' (.bool b) v := k5
    cases this
    exact ⟨rfl, k1.below⟩
  | panicked ch => exact k5.elim
  | outgrown => exact k5.elim

end Go.Proofs.YtahdafekballcaaGreat.AM
