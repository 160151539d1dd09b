/-
  AM, part 22: regions that draw, with reads that an act may come before.
-/
import Derived.Test.YtahdafekballcaaGreatAm21
namespace Go.Proofs.YtahdafekballcaaGreat.AM
open Go Go.RowKit
set_option linter.unusedVariables false
set_option linter.unusedSimpArgs false

variable {P : Program} {X : Told}

/-- A read that has been made: its number, the operation, what it saw, what it answered. -/
structure Rd where
  i : Nat
  o : Oper
  e : Env
  v : AV

def pin : List (Nat × Nat) → Nat → Nat → Bool
  | [], _, _ => false
  | p :: ps, a, b => (Nat.beq p.1 a && Nat.beq p.2 b) || pin ps a b

/-- All reads and acts of which none comes first are in the list. -/
def looseOk (P : Program) (ops : Array Oper) (ord : List Nat) (pairs : List (Nat × Nat)) : Bool :=
  ord.all fun i => ord.all fun j => kindOf P (ops.getD i default) != .read || kindOf P (ops.getD j default) != .act || (depsAt (depsOf ops) j).contains i || pin pairs i j

/-- One read, asked again. -/
def Again (P : Program) (base : Nat) (h' : Heap) (r : Rd) : Prop := ∃ v' h'', execA P r.e h' (base + r.i) r.o = some (.val v' h'') ∧ AV.beq v' r.v = true

/-- The reads that an act may come before answer the same behind it. -/
def Still (P : Program) (pairs : List (Nat × Nat)) (base : Nat) (h' : Heap) (c : Nat) : List Rd → Prop
  | [] => True
  | r :: rs => (if pin pairs r.i c = true then Again P base h' r else True) ∧ Still P pairs base h' c rs

theorem Still.mem {pairs : List (Nat × Nat)} {base : Nat} {h' : Heap} {c : Nat} : ∀ {rs : List Rd}, Still P pairs base h' c rs → ∀ r, r ∈ rs → pin pairs r.i c = true → Again P base h' r
  | [], _, r, hr, _ => by cases hr
  | r :: rs, h, q, hq, hp => by
    rcases List.mem_cons.mp hq with rfl | hq
    · have := h.1; rw [if_pos hp] at this; exact this
    · exact Still.mem h.2 q hq hp

def nthK : List Kd → Nat → Kd
  | [], _ => .act
  | k :: _, 0 => k
  | _ :: ks, n + 1 => nthK ks n

theorem nthK_eq : ∀ (os : List Oper) (n : Nat) (o : Oper), os[n]? = some o → nthK (os.map (kindOf P)) n = kindOf P o
  | [], n, o, h => by simp at h
  | x :: os, 0, o, h => by simp at h; subst h; rfl
  | x :: os, n + 1, o, h => by simp at h; exact nthK_eq os n o h

def sel3 (os : List Oper) (ks : List Kd) : List Nat → List (Nat × Oper × Kd)
  | [] => []
  | i :: r => match nthO os i with
    | some o => (i, o, nthK ks i) :: sel3 os ks r
    | none => []

def kept (k : Kd) (r : Rd) (rs : List Rd) : List Rd :=
  match k with
  | .read => r :: rs
  | _ => rs

def StillIf (P : Program) (pairs : List (Nat × Nat)) (base : Nat) (h' : Heap) (c : Nat) (rs : List Rd) : Kd → Prop
  | .act => Still P pairs base h' c rs
  | _ => True

/-- The operations of a region in a given order, the reads kept. -/
def WR (P : Program) (X : Told) (pairs : List (Nat × Nat)) (all : Array Oper) (base : Nat) : List (Nat × Oper × Kd) → List Rd → Env → Heap → (Out → St → Prop) → Prop
  | [], rs, e, h, Q => Q .norm ⟨e, h⟩
  | (i, o, k) :: os, rs, e, h, Q => match wantedA all e o with
    | none => False
    | some false => match putA e o.dst undefA with
      | none => False
      | some e' => WR P X pairs all base os rs e' h Q
    | some true => match execA P e h (base + i) o with
      | none => False
      | some (.val v h') => match putA e o.dst v with
        | none => False
        | some e' => StillIf P pairs base h' i rs k ∧ WR P X pairs all base os (kept k ⟨i, o, e, v⟩ rs) e' h' Q
      | some (.enter f args) => ∃ v h' e', Runs P X f args h (.ret v) h' ∧ putA e o.dst v = some e' ∧ Still P pairs base h' i rs ∧ WR P X pairs all base os (kept k ⟨i, o, e, v⟩ rs) e' h' Q
      | some (.panic v) => False

def CallR (P : Program) (X : Told) (pairs : List (Nat × Nat)) (all : Array Oper) (base i : Nat) (o : Oper) (k : Kd) (os : List (Nat × Oper × Kd)) (rs : List Rd) (e : Env) (h : Heap) (d : Option Tmp) (f : FuncId) (args : List AV) (Q : Out → St → Prop) : Prop :=
  ∃ v h' e', Runs P X f args h (.ret v) h' ∧ putA e d v = some e' ∧ Still P pairs base h' i rs ∧ WR P X pairs all base os (kept k ⟨i, o, e, v⟩ rs) e' h' Q

theorem WR_nil {pairs : List (Nat × Nat)} {all : Array Oper} {base : Nat} {rs : List Rd} {e : Env} {h : Heap} {Q : Out → St → Prop} : WR P X pairs all base [] rs e h Q = Q .norm ⟨e, h⟩ := rfl
theorem WR_cons {pairs : List (Nat × Nat)} {all : Array Oper} {base i : Nat} {o : Oper} {k : Kd} {os : List (Nat × Oper × Kd)} {rs : List Rd} {e : Env} {h : Heap} {Q : Out → St → Prop} : WR P X pairs all base ((i, o, k) :: os) rs e h Q = match wantedA all e o with
    | none => False
    | some false => match putA e o.dst undefA with
      | none => False
      | some e' => WR P X pairs all base os rs e' h Q
    | some true => match execA P e h (base + i) o with
      | none => False
      | some (.val v h') => match putA e o.dst v with
        | none => False
        | some e' => StillIf P pairs base h' i rs k ∧ WR P X pairs all base os (kept k ⟨i, o, e, v⟩ rs) e' h' Q
      | some (.enter f args) => CallR P X pairs all base i o k os rs e h o.dst f args Q
      | some (.panic v) => False := by
  rw [WR]; rfl

theorem CallR.into {pairs : List (Nat × Nat)} {all : Array Oper} {base i : Nat} {o : Oper} {k : Kd} {os : List (Nat × Oper × Kd)} {rs : List Rd} {e : Env} {h h' : Heap} {d : Nat} {f : FuncId} {args : List AV} {v : AV} {Q : Out → St → Prop} (hr : Runs P X f args h (.ret v) h') (hd : d < e.sz) (hs : Still P pairs base h' i rs) (w : WR P X pairs all base os (kept k ⟨i, o, e, v⟩ rs) (e.put d v) h' Q) : CallR P X pairs all base i o k os rs e h (some d) f args Q :=
  ⟨v, h', _, hr, putA_into hd, hs, w⟩

/-- A read stands against what comes behind it. -/
def GoodR (P : Program) (pairs : List (Nat × Nat)) (ops : Array Oper) (base : Nat) (r : Rd) (c : Ent) : Prop :=
  c.skip = true ∨ kindOf P (ops.getD c.i default) ≠ .act ∨ pin pairs r.i c.i = false ∨ Again P base c.h' r

theorem WR.runs {pairs : List (Nat × Nat)} {ops : Array Oper} {ord : List Nat} (hl : looseOk P ops ord pairs = true) {base : Nat} {Q : Out → St → Prop} : ∀ (l : List Nat) (rs : List Rd) (e : Env) (h : Heap), (∀ i, i ∈ l → i ∈ ord ∧ i < ops.size) → WR P X pairs ops base (sel3 ops.toList (ops.toList.map (kindOf P)) l) rs e h Q →
    ∃ n tr o s', runL P (callA P X n) ops base l e h = some (tr, o, s') ∧ Q o s' ∧ againAll P ops base tr = true ∧ (∀ x, x ∈ tr → x.i ∈ l) ∧ ∀ r, r ∈ rs → ∀ c, c ∈ tr → GoodR P pairs ops base r c
  | [], rs, e, h, _, w => ⟨0, [], .norm, ⟨e, h⟩, rfl, w, rfl, fun x hx => (by cases hx), fun r _ c hc => (by cases hc)⟩
  | i :: l, rs, e, h, hin, w => by
    have hi := (hin i List.mem_cons_self).2
    have hio := (hin i List.mem_cons_self).1
    have hin' := fun j hj => hin j (List.mem_cons_of_mem _ hj)
    have hget : ops[i]? = some ops[i] := Array.getElem?_eq_getElem hi
    have hgl : ops.toList[i]? = some ops[i] := by simp [hi]
    have hgd : ops.getD i default = ops[i] := by simp [Array.getD, hi]
    have hsel : sel3 ops.toList (ops.toList.map (kindOf P)) (i :: l) = (i, ops[i], kindOf P ops[i]) :: sel3 ops.toList (ops.toList.map (kindOf P)) l := by
      have : nthO ops.toList i = some ops[i] := by rw [nthO_eq]; exact hgl
      simp only [sel3, this, nthK_eq _ _ _ hgl]
    rw [hsel] at w
    -- what one entry ahead of a good trace gives
    have step : ∀ (q : Ent) (tr : List Ent) (rs' : List Rd), q.i = i → q.skip = false → againAll P ops base tr = true → (∀ x, x ∈ tr → x.i ∈ l) → (∀ r, r ∈ rs' → ∀ c, c ∈ tr → GoodR P pairs ops base r c) → rs' = kept (kindOf P ops[i]) ⟨i, ops[i], q.e, q.v⟩ rs →
        (kindOf P ops[i] = .act → Still P pairs base q.h' i rs) → againAll P ops base (q :: tr) = true ∧ (∀ x, x ∈ q :: tr → x.i ∈ i :: l) ∧ ∀ r, r ∈ rs → ∀ c, c ∈ q :: tr → GoodR P pairs ops base r c := by
      intro q tr rs' hq hsk ha hx hg hrs hst
      refine ⟨?_, ?_, ?_⟩
      · simp only [againAll, Bool.and_eq_true, List.all_eq_true]
        refine ⟨fun c hc => ?_, ha⟩
        unfold againOk
        rw [hq, hgd]
        cases hk : kindOf P ops[i] with
        | read =>
          rw [hk] at hrs
          have hmem : (⟨i, ops[i], q.e, q.v⟩ : Rd) ∈ rs' := by rw [hrs]; exact List.mem_cons_self
          have hci := (hin' _ (hx c hc)).1
          rcases hg _ hmem c hc with g | g | g | g
          · simp [g]
          · have z : (kindOf P (ops.getD c.i default) != .act) = true := bne_iff_ne.mpr g
            simp only [z, Bool.or_true, Bool.true_or]
          · have h1 := List.all_eq_true.mp (List.all_eq_true.mp hl i hio) c.i hci
            rw [hgd, hk] at h1
            simp only at g
            rw [g] at h1
            simp only [bne_self_eq_false, Bool.false_or, Bool.or_false, Bool.or_eq_true] at h1
            rcases h1 with h1 | h1
            · simp only [h1, Bool.or_true, Bool.true_or]
            · simp only [h1, Bool.or_true, Bool.true_or]
          · obtain ⟨v', h'', g1, g2⟩ := g
            simp only at g1 g2
            rw [g1]
            simp only [g2, Bool.or_true]
        | pure => simp
        | make => simp
        | act => simp
      · intro x hx'
        rcases List.mem_cons.mp hx' with rfl | hx'
        · rw [hq]; exact List.mem_cons_self
        · exact List.mem_cons_of_mem _ (hx x hx')
      · intro r hr c hc
        rcases List.mem_cons.mp hc with rfl | hc
        · by_cases hk : kindOf P ops[i] = .act
          · by_cases hp : pin pairs r.i i = true
            · exact .inr (.inr (.inr ((hst hk).mem r hr hp)))
            · refine .inr (.inr (.inl ?_)); rw [hq]; simpa using hp
          · refine .inr (.inl ?_); rw [hq, hgd]; exact hk
        · refine hg r ?_ c hc
          rw [hrs]
          cases kindOf P ops[i] <;> first | exact hr | exact List.mem_cons_of_mem _ hr
    have skip : ∀ (q : Ent) (tr : List Ent), q.i = i → q.skip = true → againAll P ops base tr = true → (∀ x, x ∈ tr → x.i ∈ l) → (∀ r, r ∈ rs → ∀ c, c ∈ tr → GoodR P pairs ops base r c) →
        againAll P ops base (q :: tr) = true ∧ (∀ x, x ∈ q :: tr → x.i ∈ i :: l) ∧ ∀ r, r ∈ rs → ∀ c, c ∈ q :: tr → GoodR P pairs ops base r c := by
      intro q tr hq hsk ha hx hg
      refine ⟨?_, ?_, ?_⟩
      · simp only [againAll, Bool.and_eq_true, List.all_eq_true]
        exact ⟨fun c hc => by unfold againOk; simp [hsk], ha⟩
      · intro x hx'
        rcases List.mem_cons.mp hx' with rfl | hx'
        · rw [hq]; exact List.mem_cons_self
        · exact List.mem_cons_of_mem _ (hx x hx')
      · intro r hr c hc
        rcases List.mem_cons.mp hc with rfl | hc
        · exact .inl hsk
        · exact hg r hr c hc
    simp only [WR] at w
    split at w
    · exact w.elim
    · rename_i hw
      split at w
      · exact w.elim
      · rename_i e' hp
        obtain ⟨n, tr, o, s', k1, k2, k3, k4, k5⟩ := WR.runs hl l _ _ _ hin' w
        obtain ⟨s1, s2, s3⟩ := skip ⟨i, true, e, h, undefA, h⟩ tr rfl rfl k3 k4 k5
        exact ⟨n, ⟨i, true, e, h, undefA, h⟩ :: tr, o, s', by simp only [runL, hget, hw, hp, k1], k2, s1, s2, s3⟩
    · rename_i hw
      split at w
      · exact w.elim
      · rename_i v h' hx
        split at w
        · exact w.elim
        · rename_i e' hp
          obtain ⟨hst, w⟩ := w
          obtain ⟨n, tr, o, s', k1, k2, k3, k4, k5⟩ := WR.runs hl l _ _ _ hin' w
          obtain ⟨s1, s2, s3⟩ := step ⟨i, false, e, h, v, h'⟩ tr _ rfl rfl k3 k4 k5 rfl (fun hk => by rw [hk] at hst; exact hst)
          exact ⟨n, ⟨i, false, e, h, v, h'⟩ :: tr, o, s', by simp only [runL, hget, hw, hx, hp, k1], k2, s1, s2, s3⟩
      · rename_i f args hx
        obtain ⟨v, h', e', ⟨m, hm⟩, hp, hst, w⟩ := w
        obtain ⟨n, tr, o, s', k1, k2, k3, k4, k5⟩ := WR.runs hl l _ _ _ hin' w
        obtain ⟨s1, s2, s3⟩ := step ⟨i, false, e, h, v, h'⟩ tr _ rfl rfl k3 k4 k5 rfl (fun _ => hst)
        refine ⟨max n m, ⟨i, false, e, h, v, h'⟩ :: tr, o, s', ?_, k2, s1, s2, s3⟩
        have hm' := callA_le m (max n m) (by omega) _ _ _ _ hm
        have k1' := runL_le (callA_le n (max n m) (by omega)) ops base l _ _ _ k1
        simp only [runL, hget, hw, hx, hm', hp, k1']
      · exact w.elim

theorem W.regionR {id : Nat} {ops : Array Oper} {s : St} {Q : Out → St → Prop} {ord : List Nat} {pairs : List (Nat × Nat)} {ks : List Kd} (hd : drawOk P ops ord = true) (hc : canon P ops = ord) (hl : looseOk P ops ord pairs = true) (hk : ops.toList.map (kindOf P) = ks) (hin : ord.all (fun i => Nat.blt i ops.size) = true) (w : WR P X pairs ops s.heap.next (sel3 ops.toList ks ord) [] s.env (s.heap.bump (reserve ops)) Q) : W P X (.region id ops true) s Q := by
  subst hk
  obtain ⟨n, tr, o, s', k1, k2, k3, _, _⟩ := WR.runs hl ord _ _ _ (fun i hi => ⟨hi, by have := List.all_eq_true.mp hin i hi; rwa [Nat.blt_eq] at this⟩) w
  refine ⟨n + 1, o, s', ?_, k2⟩
  have k1' := runL_le (callA_le n (n + 1) (by omega)) ops s.heap.next ord _ _ _ k1
  simp only [codeA, regionA, if_true, hc, hd, k1', k3]

theorem W.seqRR {id : Nat} {ops : Array Oper} {b : Code} {s : St} {Q : Out → St → Prop} (n : Nat) (ord : List Nat) (pairs : List (Nat × Nat)) (ks : List Kd) (hd : drawOk P ops ord = true) (hc : canon P ops = ord) (hl : looseOk P ops ord pairs = true) (hk : ops.toList.map (kindOf P) = ks) (hin : ord.all (fun i => Nat.blt i ops.size) = true) (hn : reserve ops = n)
    (w : ∀ K all, K = Then P X b Q → all = ops → WR P X pairs all s.heap.next (sel3 ops.toList ks ord) [] s.env (s.heap.bump n) K) : W P X (.seq (.region id ops true) b) s Q :=
  W.seqT (W.regionR hd hc hl hk hin (hn ▸ w _ _ rfl rfl))

theorem W.regR {id : Nat} {ops : Array Oper} {s : St} {Q : Out → St → Prop} (n : Nat) (ord : List Nat) (pairs : List (Nat × Nat)) (ks : List Kd) (hd : drawOk P ops ord = true) (hc : canon P ops = ord) (hl : looseOk P ops ord pairs = true) (hk : ops.toList.map (kindOf P) = ks) (hin : ord.all (fun i => Nat.blt i ops.size) = true) (hn : reserve ops = n)
    (w : ∀ K all, K = Q → all = ops → WR P X pairs all s.heap.next (sel3 ops.toList ks ord) [] s.env (s.heap.bump n) K) : W P X (.region id ops true) s Q :=
  W.regionR hd hc hl hk hin (hn ▸ w _ _ rfl rfl)

end Go.Proofs.YtahdafekballcaaGreat.AM
