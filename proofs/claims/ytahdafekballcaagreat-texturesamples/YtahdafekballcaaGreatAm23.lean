/-
  AM, part 23: regions that draw, with reads that hold as long as the heap keeps what is said of it.
-/
import Derived.Test.YtahdafekballcaaGreatAm22
namespace Go.Proofs.YtahdafekballcaaGreat.AM
open Go Go.RowKit
set_option linter.unusedVariables false
set_option linter.unusedSimpArgs false

variable {P : Program} {X : Told}

/-- The operations of a region in a given order; I is kept by all acts, and each read answers the same as long as I holds. -/
def WI (P : Program) (X : Told) (I : Heap → Prop) (all : Array Oper) (base : Nat) : List (Nat × Oper × Kd) → Env → Heap → (Out → St → Prop) → Prop
  | [], e, h, Q => Q .norm ⟨e, h⟩
  | (i, o, k) :: os, e, h, Q => match wantedA all e o with
    | none => False
    | some false => match putA e o.dst undefA with
      | none => False
      | some e' => WI P X I all base os e' h Q
    | some true => match k with
      | .read => ∃ v e', execA P e h (base + i) o = some (.val v h) ∧ putA e o.dst v = some e' ∧ AV.beq v v = true ∧ (∀ h', I h' → ∃ h'', execA P e h' (base + i) o = some (.val v h'')) ∧ WI P X I all base os e' h Q
      | _ => match execA P e h (base + i) o with
        | none => False
        | some (.val v h') => match putA e o.dst v with
          | none => False
          | some e' => (k = .act → I h') ∧ WI P X I all base os e' h' Q
        | some (.enter f args) => ∃ v h' e', Runs P X f args h (.ret v) h' ∧ putA e o.dst v = some e' ∧ I h' ∧ WI P X I all base os e' h' Q
        | some (.panic v) => False

def CallI (P : Program) (X : Told) (I : Heap → Prop) (all : Array Oper) (base : Nat) (os : List (Nat × Oper × Kd)) (e : Env) (h : Heap) (d : Option Tmp) (f : FuncId) (args : List AV) (Q : Out → St → Prop) : Prop :=
  ∃ v h' e', Runs P X f args h (.ret v) h' ∧ putA e d v = some e' ∧ I h' ∧ WI P X I all base os e' h' Q

def ReadI (P : Program) (X : Told) (I : Heap → Prop) (all : Array Oper) (base : Nat) (fr : Nat) (o : Oper) (os : List (Nat × Oper × Kd)) (e : Env) (h : Heap) (Q : Out → St → Prop) : Prop :=
  ∃ v e', execA P e h fr o = some (.val v h) ∧ putA e o.dst v = some e' ∧ AV.beq v v = true ∧ (∀ h', I h' → ∃ h'', execA P e h' fr o = some (.val v h'')) ∧ WI P X I all base os e' h Q

def ActI (I : Heap → Prop) (k : Kd) (h : Heap) : Prop := k = .act → I h
theorem ActI_pure {I : Heap → Prop} {h : Heap} : ActI I .pure h = True := by simp [ActI]
theorem ActI_make {I : Heap → Prop} {h : Heap} : ActI I .make h = True := by simp [ActI]
theorem ActI_act {I : Heap → Prop} {h : Heap} : ActI I .act h = I h := by simp [ActI]

theorem WI_nil {I : Heap → Prop} {all : Array Oper} {base : Nat} {e : Env} {h : Heap} {Q : Out → St → Prop} : WI P X I all base [] e h Q = Q .norm ⟨e, h⟩ := rfl
theorem WI_read {I : Heap → Prop} {all : Array Oper} {base i : Nat} {o : Oper} {os : List (Nat × Oper × Kd)} {e : Env} {h : Heap} {Q : Out → St → Prop} : WI P X I all base ((i, o, .read) :: os) e h Q = match wantedA all e o with
    | none => False
    | some false => match putA e o.dst undefA with
      | none => False
      | some e' => WI P X I all base os e' h Q
    | some true => ReadI P X I all base (base + i) o os e h Q := Eq.trans rfl rfl
theorem WI_pure {I : Heap → Prop} {all : Array Oper} {base i : Nat} {o : Oper} {os : List (Nat × Oper × Kd)} {e : Env} {h : Heap} {Q : Out → St → Prop} : WI P X I all base ((i, o, .pure) :: os) e h Q = match wantedA all e o with
    | none => False
    | some false => match putA e o.dst undefA with
      | none => False
      | some e' => WI P X I all base os e' h Q
    | some true => match execA P e h (base + i) o with
        | none => False
        | some (.val v h') => match putA e o.dst v with
          | none => False
          | some e' => ActI I .pure h' ∧ WI P X I all base os e' h' Q
        | some (.enter f args) => CallI P X I all base os e h o.dst f args Q
        | some (.panic v) => False := Eq.trans rfl rfl
theorem WI_make {I : Heap → Prop} {all : Array Oper} {base i : Nat} {o : Oper} {os : List (Nat × Oper × Kd)} {e : Env} {h : Heap} {Q : Out → St → Prop} : WI P X I all base ((i, o, .make) :: os) e h Q = match wantedA all e o with
    | none => False
    | some false => match putA e o.dst undefA with
      | none => False
      | some e' => WI P X I all base os e' h Q
    | some true => match execA P e h (base + i) o with
        | none => False
        | some (.val v h') => match putA e o.dst v with
          | none => False
          | some e' => ActI I .make h' ∧ WI P X I all base os e' h' Q
        | some (.enter f args) => CallI P X I all base os e h o.dst f args Q
        | some (.panic v) => False := Eq.trans rfl rfl
theorem WI_act {I : Heap → Prop} {all : Array Oper} {base i : Nat} {o : Oper} {os : List (Nat × Oper × Kd)} {e : Env} {h : Heap} {Q : Out → St → Prop} : WI P X I all base ((i, o, .act) :: os) e h Q = match wantedA all e o with
    | none => False
    | some false => match putA e o.dst undefA with
      | none => False
      | some e' => WI P X I all base os e' h Q
    | some true => match execA P e h (base + i) o with
        | none => False
        | some (.val v h') => match putA e o.dst v with
          | none => False
          | some e' => ActI I .act h' ∧ WI P X I all base os e' h' Q
        | some (.enter f args) => CallI P X I all base os e h o.dst f args Q
        | some (.panic v) => False := Eq.trans rfl rfl

theorem CallI.into {I : Heap → Prop} {all : Array Oper} {base : Nat} {os : List (Nat × Oper × Kd)} {e : Env} {h h' : Heap} {d : Nat} {f : FuncId} {args : List AV} {v : AV} {Q : Out → St → Prop} (hr : Runs P X f args h (.ret v) h') (hd : d < e.sz) (hi : I h') (w : WI P X I all base os (e.put d v) h' Q) : CallI P X I all base os e h (some d) f args Q :=
  ⟨v, h', _, hr, putA_into hd, hi, w⟩

theorem ReadI.into {I : Heap → Prop} {all : Array Oper} {base fr : Nat} {d : Nat} {op : Op} {ty : TypeId} {pos : String} {after : Array Edge} {g : Option (Nat × Bool)} {os : List (Nat × Oper × Kd)} {e : Env} {h : Heap} {v : AV} {Q : Out → St → Prop} (hh : I h) (hs : ∀ h', I h' → execA P e h' fr ⟨some d, op, ty, pos, after, g⟩ = some (.val v h')) (hb : AV.beq v v = true) (hd : d < e.sz) (w : WI P X I all base os (e.put d v) h Q) : ReadI P X I all base fr ⟨some d, op, ty, pos, after, g⟩ os e h Q :=
  ⟨v, _, hs h hh, putA_into hd, hb, fun h' hi => ⟨h', hs h' hi⟩, w⟩

/-- Any env that agrees will do. -/
theorem WI.wr {I : Heap → Prop} {pairs : List (Nat × Nat)} {all : Array Oper} {base : Nat} {Q : Out → St → Prop} : ∀ (os : List (Nat × Oper × Kd)) (rs : List Rd) (e : Env) (h : Heap), (∀ r, r ∈ rs → ∀ h', I h' → Again P base h' r) → WI P X I all base os e h Q → WR P X pairs all base os rs e h Q
  | [], rs, e, h, _, w => w
  | (i, o, k) :: os, rs, e, h, hr, w => by
    have still : ∀ h', I h' → ∀ l : List Rd, (∀ r, r ∈ l → r ∈ rs) → Still P pairs base h' i l := by
      intro h' hi l
      induction l with
      | nil => intro _; trivial
      | cons r l ih =>
        intro hl
        refine ⟨?_, ih fun q hq => hl q (List.mem_cons_of_mem _ hq)⟩
        split
        · exact hr r (hl r List.mem_cons_self) h' hi
        · trivial
    rw [WR_cons]
    cases k with
    | read =>
      rw [WI_read] at w
      revert w
      match wantedA all e o with
      | none => exact fun w => w
      | some false =>
        dsimp only
        match putA e o.dst undefA with
        | none => exact fun w => w
        | some e' => exact fun w => WI.wr os rs e' h hr w
      | some true =>
        rintro ⟨v, e', h1, h2, h3, h4, h5⟩
        simp only [h1, h2]
        refine ⟨trivial, WI.wr os _ e' h ?_ h5⟩
        intro r hr' h' hi
        rcases List.mem_cons.mp hr' with rfl | hr'
        · obtain ⟨h'', h6⟩ := h4 h' hi
          exact ⟨v, h'', h6, h3⟩
        · exact hr r hr' h' hi
    | pure =>
      rw [WI_pure] at w
      revert w
      match wantedA all e o with
      | none => exact fun w => w
      | some false =>
        dsimp only
        match putA e o.dst undefA with
        | none => exact fun w => w
        | some e' => exact fun w => WI.wr os rs e' h hr w
      | some true =>
        dsimp only
        match execA P e h (base + i) o with
        | none => exact fun w => w
        | some (.val v h') =>
          dsimp only
          match putA e o.dst v with
          | none => exact fun w => w
          | some e' => exact fun w => ⟨trivial, WI.wr os rs e' h' hr w.2⟩
        | some (.enter f args) => exact fun ⟨v, h', e', h1, h2, h3, h4⟩ => ⟨v, h', e', h1, h2, still h' h3 rs (fun _ x => x), WI.wr os rs e' h' hr h4⟩
        | some (.panic v) => exact fun w => w
    | make =>
      rw [WI_make] at w
      revert w
      match wantedA all e o with
      | none => exact fun w => w
      | some false =>
        dsimp only
        match putA e o.dst undefA with
        | none => exact fun w => w
        | some e' => exact fun w => WI.wr os rs e' h hr w
      | some true =>
        dsimp only
        match execA P e h (base + i) o with
        | none => exact fun w => w
        | some (.val v h') =>
          dsimp only
          match putA e o.dst v with
          | none => exact fun w => w
          | some e' => exact fun w => ⟨trivial, WI.wr os rs e' h' hr w.2⟩
        | some (.enter f args) => exact fun ⟨v, h', e', h1, h2, h3, h4⟩ => ⟨v, h', e', h1, h2, still h' h3 rs (fun _ x => x), WI.wr os rs e' h' hr h4⟩
        | some (.panic v) => exact fun w => w
    | act =>
      rw [WI_act] at w
      revert w
      match wantedA all e o with
      | none => exact fun w => w
      | some false =>
        dsimp only
        match putA e o.dst undefA with
        | none => exact fun w => w
        | some e' => exact fun w => WI.wr os rs e' h hr w
      | some true =>
        dsimp only
        match execA P e h (base + i) o with
        | none => exact fun w => w
        | some (.val v h') =>
          dsimp only
          match putA e o.dst v with
          | none => exact fun w => w
          | some e' => exact fun w => ⟨still h' (w.1 rfl) rs (fun _ x => x), WI.wr os rs e' h' hr w.2⟩
        | some (.enter f args) => exact fun ⟨v, h', e', h1, h2, h3, h4⟩ => ⟨v, h', e', h1, h2, still h' h3 rs (fun _ x => x), WI.wr os rs e' h' hr h4⟩
        | some (.panic v) => exact fun w => w

/-- All pairs of a read and an act. -/
def pairsOf (ks : List Kd) : List (Nat × Nat) := (List.range ks.length).flatMap fun i => bif (nthK ks i == .read) then ((List.range ks.length).filter fun j => nthK ks j == .act).map fun j => (i, j) else []

theorem W.seqI {id : Nat} {ops : Array Oper} {b : Code} {s : St} {Q : Out → St → Prop} (I : Heap → Prop) (n : Nat) (ord : List Nat) (ks : List Kd) (hd : drawOk P ops ord = true) (hc : canon P ops = ord) (hl : looseOk P ops ord (pairsOf ks) = true) (hk : ops.toList.map (kindOf P) = ks) (hin : ord.all (fun i => Nat.blt i ops.size) = true) (hn : reserve ops = n)
    (w : ∀ K all, K = Then P X b Q → all = ops → WI P X I all s.heap.next (sel3 ops.toList ks ord) s.env (s.heap.bump n) K) : W P X (.seq (.region id ops true) b) s Q :=
  W.seqRR n ord (pairsOf ks) ks hd hc hl hk hin hn fun K all hK ha => WI.wr _ [] _ _ (fun r hr => by cases hr) (w K all hK ha)

theorem W.regI {id : Nat} {ops : Array Oper} {s : St} {Q : Out → St → Prop} (I : Heap → Prop) (n : Nat) (ord : List Nat) (ks : List Kd) (hd : drawOk P ops ord = true) (hc : canon P ops = ord) (hl : looseOk P ops ord (pairsOf ks) = true) (hk : ops.toList.map (kindOf P) = ks) (hin : ord.all (fun i => Nat.blt i ops.size) = true) (hn : reserve ops = n)
    (w : ∀ K all, K = Q → all = ops → WI P X I all s.heap.next (sel3 ops.toList ks ord) s.env (s.heap.bump n) K) : W P X (.region id ops true) s Q :=
  W.regR n ord (pairsOf ks) ks hd hc hl hk hin hn fun K all hK ha => WI.wr _ [] _ _ (fun r hr => by cases hr) (w K all hK ha)

end Go.Proofs.YtahdafekballcaaGreat.AM
