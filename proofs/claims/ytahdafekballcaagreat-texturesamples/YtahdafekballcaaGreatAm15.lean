/-
  AM, part 15: a region that draws its order, any order.
-/
import Derived.Test.YtahdafekballcaaGreatAm14
namespace Go.Proofs.YtahdafekballcaaGreat.AM
open Go Go.RowKit
set_option linter.unusedVariables false
set_option linter.unusedSimpArgs false

variable {P : Program} {call : CallT} {ops : Array Oper} {base : Nat}

theorem Chain.split : ∀ {a b : List Ent} {e e' : Env} {h h' : Heap}, Chain P call ops base e h (a ++ b) e' h' → ∃ em hm, Chain P call ops base e h a em hm ∧ Chain P call ops base em hm b e' h'
  | [], b, e, e', h, h', c => ⟨e, h, .nil e h, c⟩
  | x :: a, b, _, e', _, h', c => by
    cases c with
    | cons _ e1 _ _ _ g hp ht =>
      obtain ⟨em, hm, k1, k2⟩ := Chain.split ht
      exact ⟨em, hm, .cons x e1 a em hm g hp k1, k2⟩

theorem Chain.append : ∀ {a b : List Ent} {e em e' : Env} {h hm h' : Heap}, Chain P call ops base e h a em hm → Chain P call ops base em hm b e' h' → Chain P call ops base e h (a ++ b) e' h'
  | [], b, _, _, e', _, _, h', .nil e h, c => c
  | x :: a, b, _, em, e', _, hm, h', .cons _ e1 _ _ _ g hp ht, c => .cons x e1 (a ++ b) e' h' g hp (Chain.append ht c)

theorem Chain.good : ∀ {a : List Ent} {e e' : Env} {h h' : Heap}, Chain P call ops base e h a e' h' → ∀ x ∈ a, Good P call ops base x
  | _, _, _, _, _, .nil e h, x, hx => by cases hx
  | _, _, _, _, _, .cons y e1 tr e' h' g hp ht, x, hx => by
    rcases List.mem_cons.1 hx with rfl | hx
    · exact g
    · exact Chain.good ht x hx

def slot (ops : Array Oper) (x : Ent) : Option Tmp := (ops[x.i]?).bind (·.dst)

theorem putA_get {e e1 : Env} {d : Option Tmp} {v : AV} (h : putA e d v = some e1) : e1.sz = e.sz ∧ (∀ t, d ≠ some t → e1.get t = e.get t) ∧ (∀ t, d = some t → e1.get t = v ∧ t < e.sz) := by
  cases d with
  | none => simp [putA] at h; subst h; exact ⟨rfl, fun _ _ => rfl, fun _ h => by cases h⟩
  | some d =>
    simp only [putA, cond_eq_ite] at h
    split at h
    · rename_i hlt
      obtain rfl := Option.some.inj h
      refine ⟨rfl, fun t ht => ?_, fun t ht => ?_⟩
      · rw [Env.get_put, if_neg (fun e => ht (by rw [e]))]
      · obtain rfl := Option.some.inj ht
        exact ⟨by rw [Env.get_put, if_pos rfl], Nat.le_of_ble_eq_true hlt⟩
    · simp at h

theorem Chain.env1 : ∀ {a : List Ent} {e e' : Env} {h h' : Heap}, Chain P call ops base e h a e' h' → e'.sz = e.sz ∧ ∀ t, (∀ x ∈ a, slot ops x ≠ some t) → e'.get t = e.get t
  | _, _, _, _, _, .nil e h => ⟨rfl, fun _ _ => rfl⟩
  | _, _, _, _, _, .cons y e1 tr e' h' g hp ht => by
    obtain ⟨k1, k2⟩ := Chain.env1 ht
    obtain ⟨m1, m2, _⟩ := putA_get hp
    refine ⟨by rw [k1, m1], fun t ht' => ?_⟩
    rw [k2 t (fun x hx => ht' x (by simp [hx])), m2 t (ht' y (by simp))]

theorem Chain.env2 {a b : List Ent} {x : Ent} {e e' : Env} {h h' : Heap} (c : Chain P call ops base e h (a ++ x :: b) e' h') {t : Tmp} (hs : slot ops x = some t) (hb : ∀ y ∈ b, slot ops y ≠ some t) : e'.get t = x.v := by
  obtain ⟨em, hm, k1, k2⟩ := Chain.split c
  cases k2 with
  | cons _ e1 _ _ _ g hp ht =>
    obtain ⟨m1, m2, m3⟩ := putA_get hp
    rw [(Chain.env1 ht).2 t hb]
    exact (m3 t hs).1

/-- At an entry's place. -/
theorem Chain.at {a b : List Ent} {x : Ent} {e e' : Env} {h h' : Heap} (c : Chain P call ops base e h (a ++ x :: b) e' h') :
    Chain P call ops base e h a x.e x.h ∧ ∃ e1, putA x.e (slot ops x) x.v = some e1 ∧ Chain P call ops base e1 x.h' b e' h' := by
  obtain ⟨em, hm, k1, k2⟩ := Chain.split c
  cases k2 with
  | cons _ e1 _ _ _ g hp ht => exact ⟨k1, e1, hp, ht⟩

/-! ### Kinds of entries -/
def kd (P : Program) (ops : Array Oper) (x : Ent) : Kd := kindOf P (ops.getD x.i default)
def isMk (P : Program) (ops : Array Oper) (x : Ent) : Bool := decide (kd P ops x = .make) && !x.skip

theorem kind_enter {e : Env} {h : Heap} {fresh : Nat} {o : Oper} {r : Res} (he : execA P e h fresh o = some r) (hr : ∀ v h', r ≠ .val v h') : kindOf P o = .act := by
  rcases execA_kinds he with ⟨v, h', e1⟩ | ⟨c, f, g, first, captured, args, h1, h3, h4, h5, h6⟩ | ⟨x, t, v, h1, h3, h4⟩
  · exact absurd e1 (hr v h')
  · unfold kindOf; rw [h1]; simp only [h3]
  · unfold kindOf; rw [h1]

theorem getD_of {i : Nat} {o : Oper} (h : ops[i]? = some o) : ops.getD i default = o := by
  rw [Array.getD_eq_getD_getElem?, h]; rfl

/-- What an entry that is no act leaves. -/
theorem Good.quiet {x : Ent} (g : Good P call ops base x) (ha : kd P ops x ≠ .act ∨ x.skip = true) :
    (isMk P ops x = false ∧ x.h' = x.h) ∨ (isMk P ops x = true ∧ ∃ ob, x.h' = x.h.put (base + x.i) (some ob) ∧ (∀ cs md a, ob = .cells cs md a → a = [])) := by
  obtain ⟨o, ho, g⟩ := g
  have hk : kd P ops x = kindOf P o := by unfold kd; rw [getD_of ho]
  rcases g with ⟨h1, h2, h3, h4⟩ | ⟨h1, h2, h3⟩
  · left; exact ⟨by simp [isMk, h1], h4⟩
  · have ha : kindOf P o ≠ .act := by
      rcases ha with ha | ha
      · rwa [hk] at ha
      · rw [h1] at ha; cases ha
    rcases h3 with h3 | ⟨f, args, h3, _⟩
    · cases hkk : kindOf P o with
      | pure => left; exact ⟨by simp [isMk, hk, hkk], (kind_pure hkk h3).1.symm⟩
      | read => left; exact ⟨by simp [isMk, hk, hkk], (kind_read hkk h3).1.symm⟩
      | make =>
        right
        obtain ⟨ob, k1, k2, _⟩ := kind_make hkk h3
        exact ⟨by simp [isMk, hk, hkk, h1], ob, k1, k2⟩
      | act => exact absurd hkk ha
    · exact absurd (kind_enter h3 (fun v h' => by simp)) ha

/-- A block that is there besides becomes one of the heap's own. -/
theorem HU.absorb {h h2 : Heap} {E : Nat → Option AObj} (u : HU h E h2) {b : Nat} {o : AObj} (hb : E b = some o) (ha : ∀ cs md a, o = .cells cs md a → a = []) : HU (h.put b (some o)) (fun c => if c = b then none else E c) h2 :=
  { next := u.next
    get := fun c => by
      rw [Heap.get_put]
      by_cases hc : b = c
      · subst hc; rw [u.get, hb]; simp
      · have : ¬ (c = b) := fun e => hc e.symm
        simp only [this, if_false, hc]
        exact u.get c
    dis := fun c o' hc => by
      split at hc
      · cases hc
      · rename_i hne
        obtain ⟨h1, h3⟩ := u.dis c o' hc
        exact ⟨by rw [Heap.get_put, if_neg (fun e => hne e.symm)]; exact h1, h3⟩
    anc := fun c cs md a hc x hx => by
      rw [Heap.get_put] at hc
      split at hc
      · have := ha cs md a (Option.some.inj hc)
        subst this; cases hx
      · show (if x = b then none else E x) = none
        split
        · rfl
        · exact u.anc c cs md a hc x hx }

def inMk (P : Program) (ops : Array Oper) (base : Nat) (mid : List Ent) (b : Nat) : Bool := mid.any fun y => isMk P ops y && Nat.beq (base + y.i) b

/-- A stretch without acts, all of whose makes are there already. -/
theorem Chain.absorb : ∀ {mid : List Ent} {e e' : Env} {h h' h2 : Heap} {E : Nat → Option AObj}, Chain P call ops base e h mid e' h' → (∀ y ∈ mid, kd P ops y ≠ .act ∨ y.skip = true) → HU h E h2 →
    (∀ y ∈ mid, isMk P ops y = true → E (base + y.i) = y.h'.get (base + y.i)) → (∀ a b c (y z : Ent), mid = a ++ y :: b ++ z :: c → y.i ≠ z.i) →
    ∃ E', HU h' E' h2 ∧ ∀ b, E' b = if inMk P ops base mid b = true then none else E b
  | _, _, _, _, _, h2, E, .nil e h, _, u, _, _ => ⟨E, u, fun b => by simp [inMk]⟩
  | _, _, _, _, _, h2, E, .cons y e1 tr e' h' g hp ht, ha, u, hE, hnd => by
    rcases g.quiet (ha y (by simp)) with ⟨k1, k2⟩ | ⟨k1, ob, k2, k3⟩
    · rw [k2] at ht
      obtain ⟨E', m1, m2⟩ := Chain.absorb ht (fun z hz => ha z (by simp [hz])) u (fun z hz => hE z (by simp [hz])) (fun a b c p q e => hnd (y :: a) b c p q (by rw [e]; rfl))
      refine ⟨E', m1, fun b => ?_⟩
      rw [m2 b]
      unfold inMk
      rw [List.any_cons, k1]
      simp
    · have hob : E (base + y.i) = some ob := by rw [hE y (by simp) k1, k2, Heap.get_put, if_pos rfl]
      have u2 := u.absorb hob k3
      rw [← k2] at u2
      obtain ⟨E', m1, m2⟩ := Chain.absorb ht (fun z hz => ha z (by simp [hz])) u2 (fun z hz hmk => by
        have hne : y.i ≠ z.i := by
          obtain ⟨s, t, rfl⟩ := List.append_of_mem hz
          exact hnd [] s t y z rfl
        show (if base + z.i = base + y.i then none else E (base + z.i)) = _
        rw [if_neg (by omega)]
        exact hE z (by simp [hz]) hmk) (fun a b c p q e => hnd (y :: a) b c p q (by rw [e]; rfl))
      refine ⟨E', m1, fun b => ?_⟩
      rw [m2 b]
      unfold inMk
      rw [List.any_cons, k1]
      by_cases hb : base + y.i = b
      · subst hb
        simp
      · have h1 : ¬ (b = base + y.i) := fun e => hb e.symm
        have h2 : Nat.beq (base + y.i) b = false := by
          cases hq : Nat.beq (base + y.i) b with
          | false => rfl
          | true => exact absurd (Nat.eq_of_beq_eq_true hq) hb
        simp only [h1, if_false, h2, Bool.and_false, Bool.false_or]

theorem Chain.clean (hH : CallHU call) {i : Nat} : ∀ {a : List Ent} {e e' : Env} {h h' : Heap}, Chain P call ops base e h a e' h' → (∀ x ∈ a, x.i ≠ i) → Clean h (base + i) → Clean h' (base + i)
  | _, _, _, _, _, .nil e h, _, c => c
  | _, _, _, _, _, .cons y e1 tr e' h' g hp ht, hn, c => by
    refine Chain.clean hH ht (fun x hx => hn x (by simp [hx])) ?_
    obtain ⟨o, ho, g⟩ := g
    rcases g with ⟨_, _, _, h4⟩ | ⟨_, _, h3 | ⟨f, args, h3, h5⟩⟩
    · rw [h4]; exact c
    · exact c.exec (by have := hn y (by simp); omega) h3
    · exact c.call hH h5


/-! ### The state of a schedule -/
structure Setup (P : Program) (call : CallT) (ops : Array Oper) (base : Nat) (e0 : Env) (h0 : Heap) (tr : List Ent) (e1 : Env) (h1 : Heap) (ord : List Nat) (out : Out) (s : St) : Prop where
  hC : CallOK P call
  hH : CallHU call
  F : Facts P ops ord
  ch : Chain P call ops base e0 h0 tr e1 h1
  en : Ends P call ops base tr ord out s e1 h1
  ag : againAll P ops base tr = true
  cl : ∀ i o, ops[i]? = some o → makes o = true → Clean h0 (base + i)

section
variable {e0 : Env} {h0 : Heap} {tr : List Ent} {e1 : Env} {h1 : Heap} {ord : List Nat} {out : Out} {s : St}

theorem Setup.pre (U : Setup P call ops base e0 h0 tr e1 h1 ord out s) : ∃ suf, ord = tr.map (·.i) ++ suf := by
  rcases U.en with ⟨_, h, _⟩ | ⟨i, rest, o, v, h, _⟩
  · exact ⟨[], by rw [h]; simp⟩
  · exact ⟨i :: rest, h⟩

theorem Setup.pos (U : Setup P call ops base e0 h0 tr e1 h1 ord out s) {a b c : List Ent} {x y : Ent} (h : tr = a ++ x :: b ++ y :: c) : ∃ c', ord = a.map (·.i) ++ x.i :: b.map (·.i) ++ y.i :: c' := by
  obtain ⟨suf, hs⟩ := U.pre
  exact ⟨c.map (·.i) ++ suf, by rw [hs, h]; simp⟩

theorem Setup.ne (U : Setup P call ops base e0 h0 tr e1 h1 ord out s) {a b c : List Ent} {x y : Ent} (h : tr = a ++ x :: b ++ y :: c) : x.i ≠ y.i := by
  obtain ⟨c', hc⟩ := U.pos h
  exact U.F.nodup _ _ _ _ _ hc

theorem Setup.lt (U : Setup P call ops base e0 h0 tr e1 h1 ord out s) {x : Ent} (hx : x ∈ tr) : x.i < ops.size := by
  obtain ⟨suf, hs⟩ := U.pre
  exact U.F.lt _ (by rw [hs]; exact List.mem_append.2 (.inl (List.mem_map.2 ⟨x, hx, rfl⟩)))

/-- Entries of one number are one. -/
theorem Setup.inj (U : Setup P call ops base e0 h0 tr e1 h1 ord out s) {x y : Ent} (hx : x ∈ tr) (hy : y ∈ tr) (h : x.i = y.i) : x = y := by
  obtain ⟨a, b, hab⟩ := List.append_of_mem hx
  rw [hab] at hy
  rcases List.mem_append.1 hy with hy | hy
  · obtain ⟨c, d, rfl⟩ := List.append_of_mem hy
    exact absurd h.symm (U.ne (a := c) (b := d) (c := b) (x := y) (y := x) hab)
  · rcases List.mem_cons.1 hy with rfl | hy
    · rfl
    · obtain ⟨c, d, rfl⟩ := List.append_of_mem hy
      exact absurd h (U.ne (a := a) (b := c) (c := d) (x := x) (y := y) (by rw [hab]; simp))

theorem slot_getD {x : Ent} {t : Tmp} (h : slot ops x = some t) : (ops.getD x.i default).dst = some t := by
  unfold slot at h
  cases ho : ops[x.i]? with
  | none => rw [ho] at h; cases h
  | some o => rw [getD_of ho]; rw [ho] at h; exact h

theorem Setup.slot_inj (U : Setup P call ops base e0 h0 tr e1 h1 ord out s) {x y : Ent} (hx : x ∈ tr) (hy : y ∈ tr) {t : Tmp} (h1' : slot ops x = some t) (h2 : slot ops y = some t) : x = y := by
  by_cases hi : x.i = y.i
  · exact U.inj hx hy hi
  · exact absurd (slot_getD h2) (U.F.dst x.i y.i (U.lt hx) (U.lt hy) hi t (slot_getD h1'))

/-- What is known of a schedule's slots. -/
structure EnvAt (ops : Array Oper) (tr : List Ent) (e0 : Env) (D : Nat → Bool) (e : Env) : Prop where
  old : ∀ t, (∀ x ∈ tr, D x.i = true → slot ops x ≠ some t) → e.get t = e0.get t
  new : ∀ x ∈ tr, D x.i = true → ∀ t, slot ops x = some t → e.get t = x.v
  sz : e.sz = e0.sz

def Closed (ops : Array Oper) (D : Nat → Bool) : Prop := ∀ i, D i = true → ∀ j ∈ depsAt (depsOf ops) i, D j = true

/-- An operation that may come next sees what it saw in the one order. -/
theorem Setup.sees (U : Setup P call ops base e0 h0 tr e1 h1 ord out s) {D : Nat → Bool} {e : Env} (V : EnvAt ops tr e0 D e) (hcl : Closed ops D) {a b : List Ent} {ex : Env} {hx : Heap} {i : Nat} (htr : tr = a ++ b)
    (hch : Chain P call ops base e0 h0 a ex hx) (hord : ∃ suf, ord = a.map (·.i) ++ i :: suf) (hi : i < ops.size) (hb : ∀ y ∈ b, y.i ≠ i → ∃ p q r, ord = p ++ i :: q ++ y.i :: r) (hD : D i = false)
    (hready : ∀ j ∈ depsAt (depsOf ops) i, D j = true) : ∀ t, t ∈ (ops.getD i default).looksAt ops → e.get t = ex.get t := by
  intro t ht
  obtain ⟨suf, hord⟩ := hord
  by_cases hw : ∃ y ∈ tr, slot ops y = some t
  · obtain ⟨y, hy, hys⟩ := hw
    have uniq : ∀ z ∈ tr, slot ops z = some t → z = y := fun z hz hzs => U.slot_inj hz hy hzs hys
    by_cases hyi : y.i = i
    · -- its own slot
      rw [V.old t (fun z hz hDz hzs => by rw [uniq z hz hzs, hyi, hD] at hDz; cases hDz)]
      refine ((Chain.env1 hch).2 t fun z hz hzs => ?_).symm
      have := uniq z (by rw [htr]; simp [hz]) hzs
      subst this
      obtain ⟨c, d, rfl⟩ := List.append_of_mem hz
      exact U.F.nodup (c.map (·.i)) (d.map (·.i)) suf z.i i (by rw [hord]; simp) hyi
    · rcases U.F.look y.i i (U.lt hy) hi hyi t (slot_getD hys) ht with hdep | hdep
      · -- written ahead of it
        have hDy := hready _ hdep
        rw [V.new y hy hDy t hys]
        have hya : y ∈ a := by
          rw [htr] at hy
          rcases List.mem_append.1 hy with hy | hy
          · exact hy
          · obtain ⟨p, q, r, e⟩ := hb y hy hyi
            exact absurd hdep (U.F.lin p q r i y.i e)
        obtain ⟨c, d, rfl⟩ := List.append_of_mem hya
        refine (Chain.env2 hch hys fun z hz hzs => ?_).symm
        have := uniq z (by rw [htr]; simp [hz]) hzs
        subst this
        obtain ⟨c2, d2, rfl⟩ := List.append_of_mem hz
        exact U.ne (a := c) (b := c2) (c := d2 ++ b) (x := z) (y := z) (by rw [htr]; simp) rfl
      · -- written behind it
        have hDy : D y.i = false := by
          cases hq : D y.i with
          | false => rfl
          | true => have := hcl _ hq _ hdep; rw [hD] at this; cases this
        rw [V.old t (fun z hz hDz hzs => by rw [uniq z hz hzs, hDy] at hDz; cases hDz)]
        refine ((Chain.env1 hch).2 t fun z hz hzs => ?_).symm
        have := uniq z (by rw [htr]; simp [hz]) hzs
        subst this
        obtain ⟨c, d, rfl⟩ := List.append_of_mem hz
        exact U.F.lin (c.map (·.i)) (d.map (·.i)) suf z.i i (by rw [hord]; simp) hdep
  · have hw' : ∀ z ∈ tr, slot ops z ≠ some t := fun z hz hzs => hw ⟨z, hz, hzs⟩
    rw [V.old t (fun z hz _ => hw' z hz)]
    exact ((Chain.env1 hch).2 t fun z hz => hw' z (by rw [htr]; simp [hz])).symm

end

end Go.Proofs.YtahdafekballcaaGreat.AM
