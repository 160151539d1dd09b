/-
  AM, part 16: the steps of a schedule.
-/
import Derived.Test.YtahdafekballcaaGreatAm15
namespace Go.Proofs.YtahdafekballcaaGreat.AM
open Go Go.RowKit
set_option linter.unusedVariables false
set_option linter.unusedSimpArgs false

variable {P : Program} {call : CallT} {ops : Array Oper} {base : Nat}

def isAct (P : Program) (ops : Array Oper) (x : Ent) : Prop := kd P ops x = .act ∧ x.skip = false

/-- A schedule's state: D has been carried out. -/
structure Inv (P : Program) (call : CallT) (ops : Array Oper) (base : Nat) (e0 : Env) (h0 : Heap) (tr : List Ent) (e1 : Env) (h1 : Heap) (B : Nat) (w0 : World) (ρ0 : Rho) (N : Nat) (ds : List Deferred)
    (D : Nat → Bool) (ρ : Rho) (eD : Env) (HD : Heap) (E : Nat → Option AObj) (pre post : List Ent) (em : Env) (Hm : Heap) (a : Act) (w : World) : Prop where
  etr : tr = pre ++ post
  c1 : Chain P call ops base e0 h0 pre em Hm
  c2 : Chain P call ops base em Hm post e1 h1
  a2 : ∀ x ∈ post, isAct P ops x → D x.i = false
  last : pre = [] ∨ ∃ p c, pre = p ++ [c] ∧ isAct P ops c ∧ D c.i = true
  hu : HU Hm E HD
  mks : ∀ x ∈ post, isMk P ops x = true → D x.i = true → E (base + x.i) = x.h'.get (base + x.i)
  off : ∀ b o, E b = some o → ∃ x ∈ post, isMk P ops x = true ∧ D x.i = true ∧ b = base + x.i
  S : Sim B w0 ρ HD w
  ext : Ext ρ0 ρ
  low : ∀ b, b < N → ρ b = ρ0 b
  nle : N ≤ HD.next
  free : ∀ i o, ops[i]? = some o → makes o = true → D i = false → ρ (base + i) = none ∧ base + i < HD.next
  fr : FR ρ eD a.tmps
  df : a.defers = ds
  env : EnvAt ops tr e0 D eD
  sub : ∀ i, D i = true → ∃ x ∈ tr, x.i = i
  cl : Closed ops D

def addD (D : Nat → Bool) (i : Nat) : Nat → Bool := fun j => Nat.beq i j || D j

theorem addD_true {D : Nat → Bool} {i j : Nat} : addD D i j = true ↔ i = j ∨ D j = true := by
  unfold addD
  rw [Bool.or_eq_true]
  constructor
  · rintro (h | h)
    · exact .inl (Nat.eq_of_beq_eq_true h)
    · exact .inr h
  · rintro (h | h)
    · exact .inl (by subst h; simp)
    · exact .inr h

theorem addD_false {D : Nat → Bool} {i j : Nat} (h : addD D i j = false) : i ≠ j ∧ D j = false := by
  refine ⟨fun e => ?_, ?_⟩
  · have : addD D i j = true := addD_true.2 (.inl e)
    rw [h] at this; cases this
  · cases hd : D j with
    | false => rfl
    | true =>
      have : addD D i j = true := addD_true.2 (.inr hd)
      rw [h] at this; cases this

section
variable {e0 : Env} {h0 : Heap} {tr : List Ent} {e1 : Env} {h1 : Heap} {ord : List Nat} {out : Out} {s : St} {B : Nat} {w0 : World} {ρ0 : Rho} {N : Nat} {ds : List Deferred}

/-- The slots behind one operation more. -/
theorem EnvAt.step (U : Setup P call ops base e0 h0 tr e1 h1 ord out s) {D : Nat → Bool} {e e' : Env} (V : EnvAt ops tr e0 D e) {x : Ent} (hx : x ∈ tr) (hp : putA e (slot ops x) x.v = some e') : EnvAt ops tr e0 (addD D x.i) e' := by
  obtain ⟨m1, m2, m3⟩ := putA_get hp
  refine ⟨fun t ht => ?_, fun y hy hDy t hs => ?_, by rw [m1, V.sz]⟩
  · rw [m2 t (ht x hx (addD_true.2 (.inl rfl)))]
    exact V.old t fun z hz hDz => ht z hz (addD_true.2 (.inr hDz))
  · by_cases hyx : y.i = x.i
    · have := U.inj hy hx hyx
      subst this
      exact (m3 t hs).1
    · rw [m2 t (fun hs' => hyx (by rw [U.slot_inj hy hx hs hs']))]
      rcases addD_true.1 hDy with h | h
      · exact absurd h.symm hyx
      · exact V.new y hy h t hs

theorem putA_some {e0 e : Env} (hs : e.sz = e0.sz) {d : Option Tmp} {v : AV} {e1 : Env} (h : putA e0 d v = some e1) : ∃ e', putA e d v = some e' := by
  cases d with
  | none => exact ⟨e, rfl⟩
  | some d =>
    simp only [putA, hs] at h ⊢
    rw [cond_eq_ite] at h ⊢
    split at h
    · rename_i hc; rw [if_pos hc]; exact ⟨_, rfl⟩
    · simp at h

theorem Closed.add {D : Nat → Bool} (h : Closed ops D) {i : Nat} (hr : ∀ j ∈ depsAt (depsOf ops) i, D j = true) : Closed ops (addD D i) := by
  intro k hk j hj
  rcases addD_true.1 hk with rfl | hk
  · exact addD_true.2 (.inr (hr j hj))
  · exact addD_true.2 (.inr (h k hk j hj))


theorem Chain.nil_inv {e e' : Env} {h h' : Heap} (c : Chain P call ops base e h [] e' h') : e' = e ∧ h' = h := by
  cases c; exact ⟨rfl, rfl⟩

theorem makes_of {o : Oper} (h : kindOf P o = .make) : makes o = true := by
  obtain ⟨dst, op, ty, pos, after, guard⟩ := o
  unfold kindOf at h
  unfold makes
  cases op <;> simp only at h ⊢
  all_goals first
    | (cases h; done)
    | skip
  all_goals ((repeat' split at h) <;> first | (cases h; done) | rfl)

theorem looks_op {o : Oper} {t : Tmp} (h : Operand.tmp t ∈ o.op.operands.toList) : t ∈ o.looksAt ops := by
  unfold Oper.looksAt
  exact List.mem_append.2 (.inl (List.mem_filterMap.2 ⟨_, h, rfl⟩))

theorem looks_guard {o : Oper} {j d : Nat} {w : Bool} (hg : o.guard = some (j, w)) (hd : (ops[j]?).bind (·.dst) = some d) : d ∈ o.looksAt ops := by
  unfold Oper.looksAt
  rw [hg]
  simp only [hd]
  exact List.mem_append.2 (.inr (by simp))

/-- A step that yields a value. -/
theorem step_val (U : Setup P call ops base e0 h0 tr e1 h1 ord out s) (hNb : N ≤ base) {D : Nat → Bool} {ρ : Rho} {eD : Env} {HD : Heap} {E : Nat → Option AObj} {pre post : List Ent} {em : Env} {Hm : Heap} {a : Act} {w : World}
    (I : Inv P call ops base e0 h0 tr e1 h1 B w0 ρ0 N ds D ρ eD HD E pre post em Hm a w) {x : Ent} (hx : x ∈ tr) {o : Oper} (ho : ops[x.i]? = some o) (hD : D x.i = false) (hready : ∀ j ∈ depsAt (depsOf ops) x.i, D j = true)
    (hw : Region.wanted o (yielded ops a.tmps) = true) (hp : ∃ e', putA x.e (slot ops x) x.v = some e' ∧ x.e.sz = e0.sz)
    {HD' : Heap} (hex : execA P eD HD (base + x.i) o = some (.val x.v HD')) {E' : Nat → Option AObj} {pre' post' : List Ent} {em' : Env} {Hm' : Heap}
    (htr : tr = pre' ++ post') (hc1 : Chain P call ops base e0 h0 pre' em' Hm') (hc2 : Chain P call ops base em' Hm' post' e1 h1) (ha2 : ∀ y ∈ post', isAct P ops y → addD D x.i y.i = false)
    (hlast : pre' = [] ∨ ∃ p c, pre' = p ++ [c] ∧ isAct P ops c ∧ addD D x.i c.i = true) (hhu : HU Hm' E' HD') (hmk : ∀ y ∈ post', isMk P ops y = true → addD D x.i y.i = true → E' (base + y.i) = y.h'.get (base + y.i))
    (hoff : ∀ b o, E' b = some o → ∃ y ∈ post', isMk P ops y = true ∧ addD D x.i y.i = true ∧ b = base + y.i)
    {Q : Exit → Act → World → Prop} {K : Act → World → Prop} (hK : ∀ ρ' eD' a' w', Inv P call ops base e0 h0 tr e1 h1 B w0 ρ0 N ds (addD D x.i) ρ' eD' HD' E' pre' post' em' Hm' a' w' → K a' w') : wpOp P ops Q x.i K a w := by
  obtain ⟨ρ', w', nx, k1, k2, k3, k4, k5, k6⟩ := execA_val I.S I.fr (fun hm => I.free x.i o ho hm hD) hex
  obtain ⟨e', he', hsz⟩ := hp
  obtain ⟨e2, he2⟩ := putA_some (e := eD) (by rw [I.env.sz, hsz]) he'
  have hslot : slot ops x = o.dst := by unfold slot; rw [ho]; rfl
  have mk : ∀ v', VR ρ' x.v v' → K (a.put o.dst v') w' := fun v' hv => by
    refine hK ρ' e2 _ w' { etr := htr, c1 := hc1, c2 := hc2, a2 := ha2, last := hlast, hu := hhu, mks := hmk, off := hoff, S := k3, ext := I.ext.trans k4, low := ?_, nle := by rw [k6]; exact I.nle, free := ?_, fr := ?_, df := by rw [Act.put_defers', I.df], env := I.env.step U hx he2, sub := ?_, cl := I.cl.add hready }
    · intro b hb
      rw [k5 b (by omega)]; exact I.low b hb
    · intro j oj hj hm hDj
      obtain ⟨m1, m2⟩ := addD_false hDj
      obtain ⟨q1, q2⟩ := I.free j oj hj hm m2
      exact ⟨by rw [k5 _ (by omega)]; exact q1, by rw [k6]; exact q2⟩
    · exact (I.fr.mono k4).put (by rw [← hslot]; exact he2) hv
    · intro j hj
      rcases addD_true.1 hj with rfl | hj
      · exact ⟨x, hx, rfl⟩
      · exact I.sub j hj
  unfold wpOp
  rw [ho]
  simp only [hw, if_true]
  left
  unfold Oper.wp
  rw [k1]
  rcases k2 with ⟨v', rfl, hv⟩ | ⟨rfl, hv⟩
  · exact mk v' hv
  · exact mk undef (by rw [hv]; exact undef_rel)

/-- A step that is a call. -/
theorem step_call (U : Setup P call ops base e0 h0 tr e1 h1 ord out s) (hNb : N ≤ base) {D : Nat → Bool} {ρ : Rho} {eD : Env} {HD : Heap} {E : Nat → Option AObj} {pre post : List Ent} {em : Env} {Hm : Heap} {a : Act} {w : World}
    (I : Inv P call ops base e0 h0 tr e1 h1 B w0 ρ0 N ds D ρ eD HD E pre post em Hm a w) {x : Ent} (hx : x ∈ tr) {o : Oper} (ho : ops[x.i]? = some o) (hD : D x.i = false) (hready : ∀ j ∈ depsAt (depsOf ops) x.i, D j = true)
    (hw : Region.wanted o (yielded ops a.tmps) = true) (hp : ∃ e', putA x.e (slot ops x) x.v = some e' ∧ x.e.sz = e0.sz)
    {HD' : Heap} {f : FuncId} {args : List AV} (hex : execA P eD HD (base + x.i) o = some (.enter f args)) (hcall : call f args HD = some (.ret x.v, HD')) {E' : Nat → Option AObj} {pre' post' : List Ent} {em' : Env} {Hm' : Heap}
    (htr : tr = pre' ++ post') (hc1 : Chain P call ops base e0 h0 pre' em' Hm') (hc2 : Chain P call ops base em' Hm' post' e1 h1) (ha2 : ∀ y ∈ post', isAct P ops y → addD D x.i y.i = false)
    (hlast : pre' = [] ∨ ∃ p c, pre' = p ++ [c] ∧ isAct P ops c ∧ addD D x.i c.i = true) (hhu : HU Hm' E' HD') (hmk : ∀ y ∈ post', isMk P ops y = true → addD D x.i y.i = true → E' (base + y.i) = y.h'.get (base + y.i))
    (hoff : ∀ b o, E' b = some o → ∃ y ∈ post', isMk P ops y = true ∧ addD D x.i y.i = true ∧ b = base + y.i)
    {Q : Exit → Act → World → Prop} {K : Act → World → Prop} (hK : ∀ ρ' eD' a' w', Inv P call ops base e0 h0 tr e1 h1 B w0 ρ0 N ds (addD D x.i) ρ' eD' HD' E' pre' post' em' Hm' a' w' → K a' w') : wpOp P ops Q x.i K a w := by
  rcases U.hC _ _ _ _ _ hcall with ⟨hEnt, hCalls⟩ | ⟨v0, hr0, hh0, _, hx0⟩
  case inr =>
    cases hr0
    subst hh0
    obtain ⟨args', h1', h2'⟩ := execA_call (w := w) I.fr hex
    obtain ⟨v', q1, q2⟩ := hx0 ρ w args' h2'
    obtain ⟨e', he', hsz⟩ := hp
    obtain ⟨e2, he2⟩ := putA_some (e := eD) (by rw [I.env.sz, hsz]) he'
    have hslot : slot ops x = o.dst := by unfold slot; rw [ho]; rfl
    unfold wpOp
    rw [ho]
    simp only [hw, if_true]
    left
    unfold Oper.wp
    rw [h1', q1]
    refine hK ρ e2 _ w { etr := htr, c1 := hc1, c2 := hc2, a2 := ha2, last := hlast, hu := hhu, mks := hmk, off := hoff, S := I.S, ext := I.ext, low := I.low, nle := I.nle, free := ?_, fr := ?_, df := by rw [Act.put_defers', I.df], env := I.env.step U hx he2, sub := ?_, cl := I.cl.add hready }
    · intro j oj hj hm hDj
      obtain ⟨m1, m2⟩ := addD_false hDj
      exact I.free j oj hj hm m2
    · exact I.fr.put (by rw [← hslot]; exact he2) q2
    · intro j hj
      rcases addD_true.1 hj with rfl | hj
      · exact ⟨x, hx, rfl⟩
      · exact I.sub j hj
  obtain ⟨args', h1', h2'⟩ := execA_enter (w := w) I.fr hex hEnt
  obtain ⟨e', he', hsz⟩ := hp
  obtain ⟨e2, he2⟩ := putA_some (e := eD) (by rw [I.env.sz, hsz]) he'
  have hslot : slot ops x = o.dst := by unfold slot; rw [ho]; rfl
  unfold wpOp
  rw [ho]
  simp only [hw, if_true]
  left
  unfold Oper.wp
  rw [h1']
  refine (hCalls B w0 ρ w args' I.S h2').mono fun en w' hpost => ?_
  obtain ⟨ρ', k3, k4, k5, k6, k7⟩ := hpost
  cases en with
  | returned v' =>
    have hv : VR ρ' x.v v' := k7
    refine hK ρ' e2 _ w' { etr := htr, c1 := hc1, c2 := hc2, a2 := ha2, last := hlast, hu := hhu, mks := hmk, off := hoff, S := k3, ext := I.ext.trans k4, low := ?_, nle := Nat.le_trans I.nle k6, free := ?_, fr := ?_, df := by rw [Act.put_defers', I.df], env := I.env.step U hx he2, sub := ?_, cl := I.cl.add hready }
    · intro b hb
      rw [k5 b (Nat.lt_of_lt_of_le hb I.nle)]; exact I.low b hb
    · intro j oj hj hm hDj
      obtain ⟨m1, m2⟩ := addD_false hDj
      obtain ⟨q1, q2⟩ := I.free j oj hj hm m2
      exact ⟨by rw [k5 _ q2]; exact q1, Nat.lt_of_lt_of_le q2 k6⟩
    · exact (I.fr.mono k4).put (by rw [← hslot]; exact he2) hv
    · intro j hj
      rcases addD_true.1 hj with rfl | hj
      · exact ⟨x, hx, rfl⟩
      · exact I.sub j hj
  | panicked ch => exact k7.elim
  | outgrown => exact k7.elim

/-- One operation that is ready, of those that the one order has carried out. -/
theorem step_tr (U : Setup P call ops base e0 h0 tr e1 h1 ord out s) (hNb : N ≤ base) {D : Nat → Bool} {ρ : Rho} {eD : Env} {HD : Heap} {E : Nat → Option AObj} {pre post : List Ent} {em : Env} {Hm : Heap} {a : Act} {w : World}
    (I : Inv P call ops base e0 h0 tr e1 h1 B w0 ρ0 N ds D ρ eD HD E pre post em Hm a w) {x : Ent} (hx : x ∈ tr) (hD : D x.i = false) (hready : ∀ j ∈ depsAt (depsOf ops) x.i, D j = true)
    {Q : Exit → Act → World → Prop} {K : Act → World → Prop} (hK : ∀ ρ' eD' HD' E' pre' post' em' Hm' a' w', Inv P call ops base e0 h0 tr e1 h1 B w0 ρ0 N ds (addD D x.i) ρ' eD' HD' E' pre' post' em' Hm' a' w' → K a' w') : wpOp P ops Q x.i K a w := by
  obtain ⟨a1, b1, hab⟩ := List.append_of_mem hx
  have hch := U.ch
  rw [hab] at hch
  obtain ⟨hcha, ex1, hput, hchb⟩ := Chain.at hch
  have hszx : x.e.sz = e0.sz := (Chain.env1 hcha).1
  obtain ⟨o, ho, hg⟩ := Chain.good U.ch x hx
  have hoD := getD_of ho
  have hsee := U.sees I.env I.cl (i := x.i) (a := a1) (b := x :: b1) hab hcha (by
      obtain ⟨suf, hs⟩ := U.pre
      exact ⟨b1.map (·.i) ++ suf, by rw [hs, hab]; simp⟩) (U.lt hx) (by
      intro y hy hne
      rcases List.mem_cons.1 hy with rfl | hy
      · exact absurd rfl hne
      · obtain ⟨p, q, rfl⟩ := List.append_of_mem hy
        obtain ⟨c', hc'⟩ := U.pos (a := a1) (b := p) (c := q) (x := x) (y := y) (by rw [hab]; simp)
        exact ⟨_, _, c', hc'⟩) hD hready
  rw [hoD] at hsee
  have hcongr : ∀ h fr, execA P eD h fr o = execA P x.e h fr o := fun h fr => execA_congr fun t ht => hsee t (looks_op ht)
  have hwant : wantedA ops eD o = wantedA ops x.e o := wantedA_congr (by rw [I.env.sz, hszx]) fun j w d h1 h2 => hsee d (looks_guard h1 h2)
  have hslot : slot ops x = o.dst := by unfold slot; rw [ho]; rfl
  have hkd : kd P ops x = kindOf P o := by unfold kd; rw [hoD]
  have uniq : ∀ y ∈ tr, y.i = x.i → y = x := fun y hy h => U.inj hy hx h
  have inpost : ∀ y ∈ post, y ∈ tr := fun y hy => by rw [I.etr]; exact List.mem_append.2 (.inr hy)
  -- nothing moves but the slots
  have same : ∀ HD', HD' = HD → wantedA ops x.e o = some true → execA P eD HD (base + x.i) o = some (.val x.v HD') → ¬ isAct P ops x → isMk P ops x = false → wpOp P ops Q x.i K a w := by
    rintro HD' rfl hwt hex hna hnm
    refine step_val U hNb I hx ho hD hready (wantedA_ok I.fr (by rw [hwant]; exact hwt)) ⟨ex1, hput, hszx⟩ hex I.etr I.c1 I.c2 ?_ ?_ I.hu ?_ ?_ (fun ρ' eD' a' w' => hK ρ' eD' _ _ _ _ _ _ a' w')
    · intro y hy hya
      have := I.a2 y hy hya
      cases hq : addD D x.i y.i with
      | false => rfl
      | true =>
        rcases addD_true.1 hq with h | h
        · have := uniq y (inpost y hy) h.symm
          subst this; exact absurd hya hna
        · rw [this] at h; cases h
    · rcases I.last with h | ⟨p, c, h1, h2, h3⟩
      · exact .inl h
      · exact .inr ⟨p, c, h1, h2, addD_true.2 (.inr h3)⟩
    · intro y hy hym hyD
      rcases addD_true.1 hyD with h | h
      · have := uniq y (inpost y hy) h.symm
        subst this; rw [hnm] at hym; cases hym
      · exact I.mks y hy hym h
    · intro b ob hb
      obtain ⟨y, hy, h1, h2, h3⟩ := I.off b ob hb
      exact ⟨y, hy, h1, addD_true.2 (.inr h2), h3⟩
  rcases hg with ⟨hs, hwf, hv, hh⟩ | ⟨hs, hwt, hg⟩
  · -- passed over
    unfold wpOp
    rw [ho]
    simp only
    rw [wantedA_ok I.fr (by rw [hwant]; exact hwf)]
    simp only [Bool.false_eq_true, if_false]
    obtain ⟨e2, he2⟩ := putA_some (e := eD) (by rw [I.env.sz, hszx]) hput
    have hna : ¬ isAct P ops x := fun h => by rw [h.2] at hs; cases hs
    have hnm : isMk P ops x = false := by simp [isMk, hs]
    refine hK ρ e2 HD E pre post em Hm _ w { etr := I.etr, c1 := I.c1, c2 := I.c2, a2 := ?_, last := ?_, hu := I.hu, mks := ?_, off := ?_, S := I.S, ext := I.ext, low := I.low, nle := I.nle, free := ?_, fr := ?_, df := by rw [Act.put_defers', I.df], env := I.env.step U hx he2, sub := ?_, cl := I.cl.add hready }
    · intro y hy hya
      have := I.a2 y hy hya
      cases hq : addD D x.i y.i with
      | false => rfl
      | true =>
        rcases addD_true.1 hq with h | h
        · have := uniq y (inpost y hy) h.symm
          subst this; exact absurd hya hna
        · rw [this] at h; cases h
    · rcases I.last with h | ⟨p, c, h1, h2, h3⟩
      · exact .inl h
      · exact .inr ⟨p, c, h1, h2, addD_true.2 (.inr h3)⟩
    · intro y hy hym hyD
      rcases addD_true.1 hyD with h | h
      · have := uniq y (inpost y hy) h.symm
        subst this; rw [hnm] at hym; cases hym
      · exact I.mks y hy hym h
    · intro b ob hb
      obtain ⟨y, hy, h1, h2, h3⟩ := I.off b ob hb
      exact ⟨y, hy, h1, addD_true.2 (.inr h2), h3⟩
    · intro j oj hj hm hDj
      exact I.free j oj hj hm (addD_false hDj).2
    · rw [hv] at he2
      exact I.fr.put (by rw [← hslot]; exact he2) undef_rel
    · intro j hj
      rcases addD_true.1 hj with rfl | hj
      · exact ⟨x, hx, rfl⟩
      · exact I.sub j hj
  · -- where it lies: not ahead of the last act that has been carried out, unless it reads
    have inpre : x ∈ pre → ∃ p q c, pre = p ++ x :: q ++ [c] ∧ isAct P ops c ∧ D c.i = true := by
      intro hxp
      rcases I.last with h | ⟨p, c, h1, h2, h3⟩
      · rw [h] at hxp; cases hxp
      · rw [h1] at hxp
        rcases List.mem_append.1 hxp with hxp | hxp
        · obtain ⟨q, r, rfl⟩ := List.append_of_mem hxp
          exact ⟨q, r, c, by rw [h1], h2, h3⟩
        · have : x = c := by simpa using hxp
          subst this; rw [hD] at h3; cases h3
    have prepos : ∀ {p q c}, pre = p ++ x :: q ++ [c] → tr = p ++ x :: q ++ c :: post := fun h => by rw [I.etr, h]; simp
    -- what lies between the last act and it
    have between : x ∈ post → kindOf P o = .act ∨ kindOf P o = .read → ∃ p1 p2 E2, post = p1 ++ x :: p2 ∧ Chain P call ops base em Hm p1 x.e x.h ∧ HU x.h E2 HD ∧ ∀ b, E2 b = if inMk P ops base p1 b = true then none else E b := by
      intro hxp hk
      obtain ⟨p1, p2, hp⟩ := List.append_of_mem hxp
      have hc2 := I.c2
      rw [hp] at hc2
      obtain ⟨k1, _⟩ := Chain.at hc2
      have hpos : ∀ y ∈ p1, ∃ u v r, tr = u ++ y :: v ++ x :: r := fun y hy => by
        obtain ⟨u, v, rfl⟩ := List.append_of_mem hy
        exact ⟨pre ++ u, v, p2, by rw [I.etr, hp]; simp⟩
      have hDmk : ∀ y ∈ p1, isMk P ops y = true → D y.i = true := fun y hy hym => by
        obtain ⟨u, v, r, hr⟩ := hpos y hy
        obtain ⟨c', hc'⟩ := U.pos hr
        have hkm : kindOf P (ops.getD y.i default) = .make := by
          simp only [isMk, Bool.and_eq_true, decide_eq_true_eq] at hym
          exact hym.1
        rcases hk with hk | hk
        · exact hready _ (U.F.mact _ _ _ _ _ hc' hkm (by rw [hoD]; exact hk))
        · rcases U.F.rmake _ _ _ _ _ hc' hkm (by rw [hoD]; exact hk) with h | ⟨k, _, h2, h3⟩
          · exact hready _ h
          · exact I.cl k (hready k h3) _ h2
      obtain ⟨E2, m1, m2⟩ := Chain.absorb k1 (fun y hy => by
        by_cases hya : kd P ops y = .act
        · right
          cases hys : y.skip with
          | true => rfl
          | false =>
            exfalso
            obtain ⟨u, v, r, hr⟩ := hpos y hy
            obtain ⟨c', hc'⟩ := U.pos hr
            have hdep : y.i ∈ depsAt (depsOf ops) x.i := by
              rcases hk with hk | hk
              · exact U.F.act _ _ _ _ _ hc' hya (by rw [hoD]; exact hk)
              · exact U.F.ract _ _ _ _ _ hc' hya (by rw [hoD]; exact hk)
            have h1 := hready _ hdep
            have h2 := I.a2 y (by rw [hp]; simp [hy]) ⟨hya, hys⟩
            rw [h1] at h2; cases h2
        · exact .inl hya) I.hu (fun y hy hym => I.mks y (by rw [hp]; simp [hy]) hym (hDmk y hy hym)) (fun u v r y z e => U.ne (a := pre ++ u) (b := v) (c := r ++ x :: p2) (x := y) (y := z) (by rw [I.etr, hp, e]; simp))
      exact ⟨p1, p2, E2, hp, k1, m1, m2⟩
    cases hk : kindOf P o with
    | pure =>
      rcases hg with hg | ⟨f, args, hg, _⟩
      · obtain ⟨k1, k2⟩ := kind_pure hk hg
        exact same HD rfl hwt (by rw [hcongr]; exact k2 HD _) (fun h => by have h := h.1; rw [hkd, hk] at h; cases h) (by simp [isMk, hkd, hk])
      · have := kind_enter hg (fun v h' => by simp)
        rw [hk] at this; cases this
    | read =>
      rcases hg with hg | ⟨f, args, hg, _⟩
      · refine same HD rfl hwt ?_ (fun h => by have h := h.1; rw [hkd, hk] at h; cases h) (by simp [isMk, hkd, hk])
        rw [hcongr]
        have hxx := hx
        rw [I.etr] at hxx
        rcases List.mem_append.1 hxx with hxp | hxp
        · obtain ⟨p, q, c, h1, h2, h3⟩ := inpre hxp
          have htr := prepos h1
          have hagain : againOk P ops base x c = true := by
            have hag := U.ag
            rw [htr] at hag
            have key : ∀ (p : List Ent), againAll P ops base (p ++ x :: q ++ c :: post) = true → againOk P ops base x c = true := by
              intro p
              induction p with
              | nil =>
                intro h
                simp only [List.nil_append, List.cons_append, againAll, Bool.and_eq_true] at h
                exact List.all_eq_true.1 h.1 c (by simp)
              | cons z p ih =>
                intro h
                simp only [List.cons_append, againAll, Bool.and_eq_true] at h
                exact ih (by simpa using h.2)
            exact key p hag
          unfold againOk at hagain
          have hx1 : kindOf P (ops.getD x.i default) = .read := by rw [hoD]; exact hk
          have hc1' : kindOf P (ops.getD c.i default) = .act := h2.1
          have hdep : (depsAt (depsOf ops) c.i).contains x.i = false := by
            cases hq : (depsAt (depsOf ops) c.i).contains x.i with
            | false => rfl
            | true =>
              have := I.cl c.i h3 x.i (by simpa using hq)
              rw [hD] at this; cases this
          rw [hs, h2.2, hx1, hc1', hdep] at hagain
          simp only [bne_self_eq_false, Bool.or_self, Bool.false_or] at hagain
          have hHm : c.h' = Hm := by
            have := I.c1
            rw [h1] at this
            obtain ⟨_, e2, _, hcc⟩ := Chain.at this
            exact (Chain.nil_inv hcc).2.symm
          rw [hHm, hoD] at hagain
          split at hagain
          · rename_i v hh hxv
            have hv := AV.eq_of_beq hagain
            subst hv
            obtain ⟨_, k2⟩ := kind_read hk hxv
            exact k2 E HD _ I.hu
          · cases hagain
        · obtain ⟨p1, p2, E2, _, _, m1, _⟩ := between hxp (.inr hk)
          obtain ⟨_, k2⟩ := kind_read hk hg
          exact k2 E2 HD _ m1
      · have := kind_enter hg (fun v h' => by simp)
        rw [hk] at this; cases this
    | make =>
      rcases hg with hg | ⟨f, args, hg, _⟩
      · obtain ⟨ob, k1, k2, k3⟩ := kind_make hk hg
        have hxx := hx
        rw [I.etr] at hxx
        have hxp : x ∈ post := by
          rcases List.mem_append.1 hxx with hxp | hxp
          · exfalso
            obtain ⟨p, q, c, h1, h2, h3⟩ := inpre hxp
            obtain ⟨c', hc'⟩ := U.pos (prepos h1)
            have := I.cl c.i h3 _ (U.F.mact _ _ _ _ _ hc' (by rw [hoD]; exact hk) h2.1)
            rw [hD] at this; cases this
          · exact hxp
        have hmkx : isMk P ops x = true := by simp [isMk, hkd, hk, hs]
        have hcl : Clean Hm (base + x.i) := by
          refine Chain.clean U.hH I.c1 (fun y hy he => ?_) (U.cl x.i o ho (makes_of hk))
          have hyt : y ∈ tr := by rw [I.etr]; simp [hy]
          have := uniq y hyt he
          subst this
          obtain ⟨u, v, rfl⟩ := List.append_of_mem hy
          obtain ⟨u2, v2, rfl⟩ := List.append_of_mem hxp
          exact U.ne (a := u) (b := v ++ u2) (c := v2) (x := y) (y := y) (by rw [I.etr]; simp) rfl
        have hu : HU Hm (fun b => if b = base + x.i then some ob else E b) (HD.put (base + x.i) (some ob)) :=
          { next := by rw [Heap.next_put]; exact I.hu.next
            get := fun b => by
              rw [Heap.get_put]
              by_cases hb : base + x.i = b
              · subst hb; simp
              · have : ¬ (b = base + x.i) := fun e => hb e.symm
                simp only [hb, this, if_false]
                exact I.hu.get b
            dis := fun b o' hb => by
              split at hb
              · rename_i e; subst e; exact ⟨hcl.off, hcl.lt⟩
              · exact I.hu.dis b o' hb
            anc := fun b cs md an hb y hy => by
              show (if y = base + x.i then some ob else E y) = none
              rw [if_neg (fun e => by subst e; exact hcl.anc b cs md an hb hy)]
              exact I.hu.anc b cs md an hb y hy }
        refine step_val U hNb I hx ho hD hready (wantedA_ok I.fr (by rw [hwant]; exact hwt)) ⟨ex1, hput, hszx⟩ (by rw [hcongr]; exact k3 HD) I.etr I.c1 I.c2 ?_ ?_ hu ?_ ?_ (fun ρ' eD' a' w' => hK ρ' eD' _ _ _ _ _ _ a' w')
        · intro y hy hya
          have := I.a2 y hy hya
          cases hq : addD D x.i y.i with
          | false => rfl
          | true =>
            rcases addD_true.1 hq with h | h
            · have := uniq y (inpost y hy) h.symm
              subst this
              have := hya.1
              rw [hkd, hk] at this; cases this
            · rw [this] at h; cases h
        · rcases I.last with h | ⟨p, c, h1, h2, h3⟩
          · exact .inl h
          · exact .inr ⟨p, c, h1, h2, addD_true.2 (.inr h3)⟩
        · intro y hy hym hyD
          show (if base + y.i = base + x.i then some ob else E (base + y.i)) = _
          by_cases hyx : y.i = x.i
          · have := uniq y (inpost y hy) hyx
            subst this
            rw [if_pos rfl, k1, Heap.get_put, if_pos rfl]
          · rw [if_neg (by omega)]
            rcases addD_true.1 hyD with h | h
            · exact absurd h.symm hyx
            · exact I.mks y hy hym h
        · intro b ob' hb
          by_cases hbx : b = base + x.i
          · exact ⟨x, hxp, hmkx, addD_true.2 (.inl rfl), hbx⟩
          · have hb' : E b = some ob' := by
              have : (if b = base + x.i then some ob else E b) = some ob' := hb
              rwa [if_neg hbx] at this
            obtain ⟨y, hy, h1, h2, h3⟩ := I.off b ob' hb'
            exact ⟨y, hy, h1, addD_true.2 (.inr h2), h3⟩
      · have := kind_enter hg (fun v h' => by simp)
        rw [hk] at this; cases this
    | act =>
      have hxx := hx
      rw [I.etr] at hxx
      have hxp : x ∈ post := by
        rcases List.mem_append.1 hxx with hxp | hxp
        · exfalso
          obtain ⟨p, q, c, h1, h2, h3⟩ := inpre hxp
          obtain ⟨c', hc'⟩ := U.pos (prepos h1)
          have := I.cl c.i h3 _ (U.F.act _ _ _ _ _ hc' (by rw [hoD]; exact hk) h2.1)
          rw [hD] at this; cases this
        · exact hxp
      obtain ⟨p1, p2, E2, hp, q1, q2, q3⟩ := between hxp (.inl hk)
      have hnm : isMk P ops x = false := by simp [isMk, hkd, hk]
      have hE2f : E2 (base + x.i) = none := by
        cases hq : E2 (base + x.i) with
        | none => rfl
        | some ob =>
          rw [q3] at hq
          split at hq
          · cases hq
          · obtain ⟨y, hy, h1, _, h3⟩ := I.off _ _ hq
            have := uniq y (inpost y hy) (by omega)
            subst this; rw [hnm] at h1; cases h1
      have hc2 := I.c2
      rw [hp] at hc2
      obtain ⟨_, ex2, hput2, hch2⟩ := Chain.at hc2
      have hc1' : Chain P call ops base e0 h0 (pre ++ p1 ++ [x]) ex2 x.h' :=
        Chain.append (Chain.append I.c1 q1) (.cons x ex2 [] ex2 x.h' ⟨o, ho, .inr ⟨hs, hwt, hg⟩⟩ hput2 (.nil _ _))
      have htr' : tr = (pre ++ p1 ++ [x]) ++ p2 := by rw [I.etr, hp]; simp
      have ne2 : ∀ y ∈ p2, y.i ≠ x.i := fun y hy he => by
        obtain ⟨u, v, rfl⟩ := List.append_of_mem hy
        exact U.ne (a := pre ++ p1) (b := u) (c := v) (x := x) (y := y) (by rw [I.etr, hp]; simp) he.symm
      have ha2' : ∀ y ∈ p2, isAct P ops y → addD D x.i y.i = false := fun y hy hya => by
        have := I.a2 y (by rw [hp]; simp [hy]) hya
        cases hq : addD D x.i y.i with
        | false => rfl
        | true =>
          rcases addD_true.1 hq with h | h
          · exact absurd h.symm (ne2 y hy)
          · rw [this] at h; cases h
      have hmk' : ∀ y ∈ p2, isMk P ops y = true → addD D x.i y.i = true → E2 (base + y.i) = y.h'.get (base + y.i) := fun y hy hym hyD => by
        have hno : inMk P ops base p1 (base + y.i) = false := by
          cases hq : inMk P ops base p1 (base + y.i) with
          | false => rfl
          | true =>
            obtain ⟨z, hz, hz2⟩ := List.any_eq_true.1 hq
            simp only [Bool.and_eq_true] at hz2
            have := Nat.eq_of_beq_eq_true hz2.2
            obtain ⟨u, v, rfl⟩ := List.append_of_mem hz
            obtain ⟨u2, v2, rfl⟩ := List.append_of_mem hy
            exact absurd (show z.i = y.i by omega) (U.ne (a := pre ++ u) (b := v ++ x :: u2) (c := v2) (x := z) (y := y) (by rw [I.etr, hp]; simp))
        rw [q3, hno]
        simp only [Bool.false_eq_true, if_false]
        rcases addD_true.1 hyD with h | h
        · exact absurd h.symm (ne2 y hy)
        · exact I.mks y (by rw [hp]; simp [hy]) hym h
      have hoff' : ∀ b ob, E2 b = some ob → ∃ y ∈ p2, isMk P ops y = true ∧ addD D x.i y.i = true ∧ b = base + y.i := fun b ob hb => by
        rw [q3] at hb
        split at hb
        · cases hb
        · rename_i hno
          obtain ⟨y, hy, h1, h2, h3⟩ := I.off b ob hb
          rw [hp] at hy
          rcases List.mem_append.1 hy with hy | hy
          · exfalso
            apply hno
            refine List.any_eq_true.2 ⟨y, hy, ?_⟩
            rw [h1, h3]
            simp
          · rcases List.mem_cons.1 hy with rfl | hy
            · rw [hnm] at h1; cases h1
            · exact ⟨y, hy, h1, addD_true.2 (.inr h2), h3⟩
      have hlast' : (pre ++ p1 ++ [x]) = [] ∨ ∃ p c, pre ++ p1 ++ [x] = p ++ [c] ∧ isAct P ops c ∧ addD D x.i c.i = true := .inr ⟨pre ++ p1, x, rfl, ⟨by rw [hkd, hk], hs⟩, addD_true.2 (.inl rfl)⟩
      rcases hg with hg | ⟨f, args, hg, hcall⟩
      · obtain ⟨HD', k1, k2⟩ := execA_hu q2 hE2f hg
        exact step_val U hNb I hx ho hD hready (wantedA_ok I.fr (by rw [hwant]; exact hwt)) ⟨ex1, hput, hszx⟩ (by rw [hcongr]; exact k1) htr' hc1' hch2 ha2' hlast' k2 hmk' hoff' (fun ρ' eD' a' w' => hK ρ' eD' _ _ _ _ _ _ a' w')
      · obtain ⟨HD', k1, k2⟩ := U.hH _ _ _ _ _ _ _ hcall q2
        exact step_call U hNb I hx ho hD hready (wantedA_ok I.fr (by rw [hwant]; exact hwt)) ⟨ex1, hput, hszx⟩ (by rw [hcongr]; exact execA_other hg (fun v h' => by simp) HD _) k1 htr' hc1' hch2 ha2' hlast' k2 hmk' hoff' (fun ρ' eD' a' w' => hK ρ' eD' _ _ _ _ _ _ a' w')

end

end Go.Proofs.YtahdafekballcaaGreat.AM
