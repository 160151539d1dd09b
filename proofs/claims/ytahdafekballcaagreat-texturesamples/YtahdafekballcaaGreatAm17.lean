/-
  AM, part 17: regions, code, calls, against the model.
-/
import Derived.Test.YtahdafekballcaaGreatAm16
namespace Go.Proofs.YtahdafekballcaaGreat.AM
open Go Go.RowKit
set_option linter.unusedVariables false
set_option linter.unusedSimpArgs false

variable {P : Program} {call : CallT} {ops : Array Oper} {base : Nat}

theorem junkAll_get : ∀ (os : List Oper) (e : Env) (t : Tmp), ((junkAll os e).get t = .junk ∨ ((junkAll os e).get t = e.get t ∧ ∀ o ∈ os, o.dst ≠ some t)) ∧ (junkAll os e).sz = e.sz
  | [], e, t => ⟨.inr ⟨rfl, fun _ h => by cases h⟩, rfl⟩
  | o :: os, e, t => by
    simp only [junkAll]
    cases hd : o.dst with
    | none =>
      obtain ⟨h1, h2⟩ := junkAll_get os e t
      refine ⟨?_, h2⟩
      rcases h1 with h1 | ⟨h1, h3⟩
      · exact .inl h1
      · refine .inr ⟨h1, fun o' ho' => ?_⟩
        rcases List.mem_cons.1 ho' with rfl | ho'
        · rw [hd]; simp
        · exact h3 o' ho'
    | some d =>
      obtain ⟨h1, h2⟩ := junkAll_get os (e.put d .junk) t
      refine ⟨?_, by rw [h2]; rfl⟩
      rcases h1 with h1 | ⟨h1, h3⟩
      · exact .inl h1
      · by_cases hdt : d = t
        · subst hdt
          exact .inl (by rw [h1, Env.get_put, if_pos rfl])
        · refine .inr ⟨by rw [h1, Env.get_put, if_neg hdt], fun o' ho' => ?_⟩
          rcases List.mem_cons.1 ho' with rfl | ho'
          · rw [hd]; intro h; exact hdt (Option.some.inj h)
          · exact h3 o' ho'

section
variable {e0 : Env} {h0 : Heap} {tr : List Ent} {e1 : Env} {h1 : Heap} {ord : List Nat} {out : Out} {s : St} {B : Nat} {w0 : World} {ρ0 : Rho} {N : Nat} {ds : List Deferred}

/-- The operation at which the one order panics. -/
theorem step_end (U : Setup P call ops base e0 h0 tr e1 h1 ord out s) {D : Nat → Bool} {ρ : Rho} {eD : Env} {HD : Heap} {E : Nat → Option AObj} {pre post : List Ent} {em : Env} {Hm : Heap} {a : Act} {w : World}
    (I : Inv P call ops base e0 h0 tr e1 h1 B w0 ρ0 N ds D ρ eD HD E pre post em Hm a w) {i : Nat} {rest : List Nat} {o : Oper} {v : AV} (hord : ord = tr.map (·.i) ++ i :: rest) (hout : out = .panic v) (ho : ops[i]? = some o)
    (hwt : wantedA ops e1 o = some true) (henv : s.env = junkAll ops.toList e1)
    (hpan : (execA P e1 h1 (base + i) o = some (.panic v) ∧ s.heap = h1) ∨ ∃ f args, execA P e1 h1 (base + i) o = some (.enter f args) ∧ call f args h1 = some (.panic v, s.heap))
    (hD : D i = false) (hready : ∀ j ∈ depsAt (depsOf ops) i, D j = true) {K : Act → World → Prop} : wpOp P ops (Post B w0 ρ0 N ds out s) i K a w := by
  have hi : i < ops.size := U.F.lt i (by rw [hord]; simp)
  have hoD := getD_of ho
  have hch := U.ch
  have hsee := U.sees I.env I.cl (i := i) (a := tr) (b := []) (by simp) hch ⟨rest, hord⟩ hi (by simp) hD hready
  rw [hoD] at hsee
  have hsz1 : e1.sz = e0.sz := (Chain.env1 hch).1
  have hcongr : ∀ h fr, execA P eD h fr o = execA P e1 h fr o := fun h fr => execA_congr fun t ht => hsee t (looks_op ht)
  have hwant : wantedA ops eD o = wantedA ops e1 o := wantedA_congr (by rw [I.env.sz, hsz1]) fun j w d h1 h2 => hsee d (looks_guard h1 h2)
  have hk : kindOf P o = .act := by
    rcases hpan with ⟨hp, _⟩ | ⟨f, args, hp, _⟩
    · exact kind_enter hp (fun v h' => by simp)
    · exact kind_enter hp (fun v h' => by simp)
  have hpos : ∀ y ∈ post, ∃ u v, ord = u ++ y.i :: v ++ i :: rest := fun y hy => by
    obtain ⟨u, v, rfl⟩ := List.append_of_mem hy
    exact ⟨pre.map (·.i) ++ u.map (·.i), v.map (·.i), by rw [hord, I.etr]; simp⟩
  obtain ⟨E2, m1, _⟩ := Chain.absorb I.c2 (fun y hy => by
    by_cases hya : kd P ops y = .act
    · right
      cases hys : y.skip with
      | true => rfl
      | false =>
        exfalso
        obtain ⟨u, v, hr⟩ := hpos y hy
        have h1 := hready _ (U.F.act _ _ _ _ _ hr hya (by rw [hoD]; exact hk))
        have h2 := I.a2 y hy ⟨hya, hys⟩
        rw [h1] at h2; cases h2
    · exact .inl hya) I.hu (fun y hy hym => I.mks y hy hym (by
      obtain ⟨u, v, hr⟩ := hpos y hy
      have hkm : kindOf P (ops.getD y.i default) = .make := by
        simp only [isMk, Bool.and_eq_true, decide_eq_true_eq] at hym
        exact hym.1
      exact hready _ (U.F.mact _ _ _ _ _ hr hkm (by rw [hoD]; exact hk))))
    (fun u v r y z e => U.ne (a := pre ++ u) (b := v) (c := r) (x := y) (y := z) (by rw [I.etr, e]; simp))
  -- the slots: those of the region are unknown, the others as they were
  have hfr : ∀ {ρ' : Rho}, FR ρ' eD a.tmps → FR ρ' s.env a.tmps := fun {ρ'} F => by
    rw [henv]
    refine ⟨by rw [F.size, (junkAll_get _ _ 0).2, I.env.sz, hsz1], fun t => ?_⟩
    rcases (junkAll_get ops.toList e1 t).1 with h | ⟨h, hn⟩
    · rw [h]; exact .junk _
    · have hno : ∀ z ∈ tr, slot ops z ≠ some t := fun z hz hzs => by
        unfold slot at hzs
        cases hoz : ops[z.i]? with
        | none => rw [hoz] at hzs; cases hzs
        | some oz =>
          rw [hoz] at hzs
          exact hn oz (List.mem_of_getElem? (by rw [Array.getElem?_toList]; exact hoz)) hzs
      rw [h, (Chain.env1 hch).2 t hno, ← I.env.old t (fun z hz _ => hno z hz)]
      exact F.get t
  unfold wpOp
  rw [ho]
  simp only
  rw [wantedA_ok I.fr (by rw [hwant]; exact hwt)]
  simp only [if_true]
  left
  unfold Oper.wp
  rcases hpan with ⟨hp, hs⟩ | ⟨f, args, hp, hcall⟩
  · have hp' := execA_other hp (fun v h' => by simp) HD (base + i)
    obtain ⟨v', k1, k2⟩ := execA_panic (w := w) I.fr (by rw [hcongr]; exact hp')
    rw [k1, hout]
    refine ⟨ρ, ⟨v', rfl, k2⟩, ?_, I.ext, I.low, by rw [hs, ← m1.next]; exact I.nle, hfr I.fr, I.df⟩
    rw [hs]
    exact I.S.forget (by rw [m1.next]; exact Nat.le_refl _) (fun b ob hb => m1.look hb)
  · obtain ⟨HD', k1, k2⟩ := U.hH _ _ _ _ _ _ _ hcall m1
    rcases U.hC _ _ _ _ _ k1 with ⟨hEnt, hCalls⟩ | ⟨v0, hr0, _⟩
    case inr => cases hr0
    have hp' := execA_other hp (fun v h' => by simp) HD (base + i)
    obtain ⟨args', q1, q2⟩ := execA_enter (w := w) I.fr (by rw [hcongr]; exact hp') hEnt
    rw [q1]
    refine (hCalls B w0 ρ w args' I.S q2).mono fun en w' hpost => ?_
    obtain ⟨ρ', k3, k4, k5, k6, k7⟩ := hpost
    cases en with
    | returned v' => exact k7.elim
    | panicked ch =>
      rw [hout]
      refine ⟨ρ', k7, k3.forget (by rw [k2.next]; exact Nat.le_refl _) (fun b ob hb => k2.look hb), I.ext.trans k4, fun b hb => by rw [k5 b (Nat.lt_of_lt_of_le hb I.nle)]; exact I.low b hb, ?_, hfr (I.fr.mono k4), I.df⟩
      have := k2.next
      have := I.nle
      omega
    | outgrown => exact k7.elim

theorem ready_mem {listed : Array Bool} {i : Nat} (h : i ∈ Region.ready .any ops listed) : i < ops.size ∧ listed.getD i true = false ∧ ∀ o, ops[i]? = some o → ∀ e ∈ o.after.toList, binds? e = true → listed.getD e.on false = true := by
  unfold Region.ready at h
  obtain ⟨h1, h2⟩ := List.mem_filter.1 h
  have h1 := List.mem_range.1 h1
  simp only [Bool.and_eq_true, Bool.not_eq_true'] at h2
  refine ⟨h1, h2.1, fun o ho e he hb => ?_⟩
  have h3 := h2.2
  rw [ho] at h3
  simp only [Option.map_some, Option.getD_some] at h3
  rw [← Array.all_toList] at h3
  have := List.all_eq_true.1 h3 e he
  simp only [Bool.or_eq_true, Bool.not_eq_true'] at this
  rcases this with this | this
  · unfold binds? at hb; rw [hb] at this; cases this
  · exact this

theorem ready_of {listed : Array Bool} {i : Nat} (hi : i < ops.size) (hl : listed.getD i true = false) (h : ∀ o, ops[i]? = some o → ∀ e ∈ o.after.toList, binds? e = true → listed.getD e.on false = true) : i ∈ Region.ready .any ops listed := by
  unfold Region.ready
  refine List.mem_filter.2 ⟨List.mem_range.2 hi, ?_⟩
  simp only [Bool.and_eq_true, Bool.not_eq_true']
  refine ⟨hl, ?_⟩
  have ho : ops[i]? = some ops[i] := Array.getElem?_eq_getElem hi
  rw [ho]
  simp only [Option.map_some, Option.getD_some]
  rw [← Array.all_toList]
  refine List.all_eq_true.2 fun e he => ?_
  simp only [Bool.or_eq_true, Bool.not_eq_true']
  cases hb : binds? e with
  | false => left; exact hb
  | true => right; exact h _ ho e he hb

/-- Any schedule. -/
theorem draw_any (U : Setup P call ops base e0 h0 tr e1 h1 ord out s) (hNb : N ≤ base) : ∀ (fuel : Nat) (listed : Array Bool) (ul : List Nat) (ρ : Rho) (eD : Env) (HD : Heap) (E : Nat → Option AObj) (pre post : List Ent) (em : Env) (Hm : Heap) (a : Act) (w : World),
    Inv P call ops base e0 h0 tr e1 h1 B w0 ρ0 N ds (fun i => listed.getD i false) ρ eD HD E pre post em Hm a w → listed.size = ops.size → ul.length ≤ fuel → (∀ i, i < ops.size → listed.getD i false = false → i ∈ ul) →
    wpAny P .any ops (Post B w0 ρ0 N ds out s) fuel listed a w := by
  -- once none is ready, all have been carried out, and the one order did not panic
  have done : ∀ (listed : Array Bool) (ρ : Rho) (eD : Env) (HD : Heap) (E : Nat → Option AObj) (pre post : List Ent) (em : Env) (Hm : Heap) (a : Act) (w : World),
      Inv P call ops base e0 h0 tr e1 h1 B w0 ρ0 N ds (fun i => listed.getD i false) ρ eD HD E pre post em Hm a w → listed.size = ops.size → Region.ready .any ops listed = [] → Post B w0 ρ0 N ds out s .normal a w := by
    intro listed ρ eD HD E pre post em Hm a w I hls hr
    have hall : ∀ i, i < ops.size → listed.getD i false = true := by
      -- the first of the order that is not listed would be ready
      have key : ∀ (p q : List Nat), ord = p ++ q → ∀ i ∈ p, listed.getD i false = true := by
        intro p
        -- by the list's end
        suffices h : ∀ (n : Nat) (p q : List Nat), p.length = n → ord = p ++ q → ∀ i ∈ p, listed.getD i false = true from fun q e i hi => h _ p q rfl e i hi
        intro n
        induction n with
        | zero => intro p q hp e i hi; have : p = [] := by simpa using hp
                  subst this; cases hi
        | succ n ih =>
          intro p q hp e i hi
          obtain ⟨p', x, rfl⟩ : ∃ p' x, p = p' ++ [x] := ⟨p.dropLast, p.getLast (by intro h; subst h; simp at hp), (List.dropLast_concat_getLast _).symm⟩
          have hp' : p'.length = n := by simpa using hp
          have e' : ord = p' ++ (x :: q) := by rw [e]; simp
          have hih := ih p' (x :: q) hp' e'
          rcases List.mem_append.1 hi with hi | hi
          · exact hih i hi
          · have : i = x := by simpa using hi
            subst this
            cases hl : listed.getD i false with
            | true => rfl
            | false =>
              exfalso
              have hilt : i < ops.size := U.F.lt i (by rw [e']; simp)
              have hlt : i < listed.size := by omega
              have : i ∈ Region.ready .any ops listed := ready_of hilt (by
                  rw [Array.getD_eq_getD_getElem?, Array.getElem?_eq_getElem hlt] at hl ⊢
                  exact hl) (fun o ho ed hed hb => by
                have hdep := deps_edge ho hed hb
                obtain ⟨h1, h2⟩ := U.F.dlt i hilt _ hdep
                have hm := U.F.all _ h1
                rw [e'] at hm
                rcases List.mem_append.1 hm with hm | hm
                · exact hih _ hm
                · rcases List.mem_cons.1 hm with hm | hm
                  · exact absurd hm.symm h2
                  · obtain ⟨u, v, rfl⟩ := List.append_of_mem hm
                    exact absurd hdep (U.F.lin p' u v i ed.on (by rw [e']; simp)))
              rw [hr] at this; cases this
      intro i hi
      exact key ord [] (by simp) i (U.F.all i hi)
    rcases U.en with ⟨h1', h2', h3'⟩ | ⟨i, rest, o, v, hord, hout, _⟩
    · subst h1'
      have hDall : ∀ x ∈ tr, listed.getD x.i false = true := fun x hx => hall _ (U.lt hx)
      refine ⟨ρ, trivial, ?_, I.ext, I.low, ?_, ?_, I.df⟩
      · rw [h3']
        have hm : ∃ E2, HU h1 E2 HD := by
          obtain ⟨E2, m1, _⟩ := Chain.absorb I.c2 (fun y hy => by
            by_cases hya : kd P ops y = .act
            · right
              cases hys : y.skip with
              | true => rfl
              | false =>
                exfalso
                have h1 := hDall y (by rw [I.etr]; simp [hy])
                have h2 := I.a2 y hy ⟨hya, hys⟩
                rw [h1] at h2; cases h2
            · exact .inl hya) I.hu (fun y hy hym => I.mks y hy hym (hDall y (by rw [I.etr]; simp [hy])))
            (fun u v r y z e => U.ne (a := pre ++ u) (b := v) (c := r) (x := y) (y := z) (by rw [I.etr, e]; simp))
          exact ⟨E2, m1⟩
        obtain ⟨E2, m1⟩ := hm
        exact I.S.forget (by rw [m1.next]; exact Nat.le_refl _) (fun b ob hb => m1.look hb)
      · rw [h3']
        obtain ⟨E2, m1, _⟩ := Chain.absorb I.c2 (fun y hy => by
            by_cases hya : kd P ops y = .act
            · right
              cases hys : y.skip with
              | true => rfl
              | false =>
                exfalso
                have h1 := hDall y (by rw [I.etr]; simp [hy])
                have h2 := I.a2 y hy ⟨hya, hys⟩
                rw [h1] at h2; cases h2
            · exact .inl hya) I.hu (fun y hy hym => I.mks y hy hym (hDall y (by rw [I.etr]; simp [hy])))
            (fun u v r y z e => U.ne (a := pre ++ u) (b := v) (c := r) (x := y) (y := z) (by rw [I.etr, e]; simp))
        have := m1.next
        have := I.nle
        simp only
        omega
      · rw [h3']
        refine ⟨by rw [I.fr.size, I.env.sz, (Chain.env1 U.ch).1], fun t => ?_⟩
        have : e1.get t = eD.get t := by
          by_cases hw : ∃ y ∈ tr, slot ops y = some t
          · obtain ⟨y, hy, hys⟩ := hw
            obtain ⟨p, q, hpq⟩ := List.append_of_mem hy
            have hc := U.ch
            rw [hpq] at hc
            rw [I.env.new y hy (hDall y hy) t hys]
            refine Chain.env2 hc hys fun z hz hzs => ?_
            have := U.slot_inj (x := z) (y := y) (by rw [hpq]; simp [hz]) hy hzs hys
            subst this
            obtain ⟨u, v, rfl⟩ := List.append_of_mem hz
            exact U.ne (a := p) (b := u) (c := v) (x := z) (y := z) (by rw [hpq]; simp) rfl
          · have hw' : ∀ z ∈ tr, slot ops z ≠ some t := fun z hz hzs => hw ⟨z, hz, hzs⟩
            rw [(Chain.env1 U.ch).2 t hw', I.env.old t (fun z hz _ => hw' z hz)]
        rw [this]
        exact I.fr.get t
    · exfalso
      have hi : i < ops.size := U.F.lt i (by rw [hord]; simp)
      obtain ⟨x, hx, hxi⟩ := I.sub i (hall i hi)
      obtain ⟨u, v, rfl⟩ := List.append_of_mem hx
      exact U.F.nodup (u.map (·.i)) (v.map (·.i)) rest x.i i (by rw [hord]; simp) hxi
  intro fuel
  induction fuel with
  | zero =>
    intro listed ul ρ eD HD E pre post em Hm a w I hls hul hin
    have hul0 : ul = [] := by
      cases ul with
      | nil => rfl
      | cons x l => simp at hul
    have hr : Region.ready .any ops listed = [] := by
      cases hrr : Region.ready .any ops listed with
      | nil => rfl
      | cons i l =>
        exfalso
        obtain ⟨h1, h2, _⟩ := ready_mem (ops := ops) (listed := listed) (i := i) (by rw [hrr]; simp)
        have hlt : i < listed.size := by omega
        have := hin i h1 (by
          rw [Array.getD_eq_getD_getElem?, Array.getElem?_eq_getElem hlt] at h2 ⊢
          exact h2)
        rw [hul0] at this; cases this
    exact ⟨hr, done listed ρ eD HD E pre post em Hm a w I hls hr⟩
  | succ fuel ih =>
    intro listed ul ρ eD HD E pre post em Hm a w I hls hul hin
    refine ⟨fun hr => done listed ρ eD HD E pre post em Hm a w I hls hr, fun i hi => ?_⟩
    obtain ⟨h1', h2', h3'⟩ := ready_mem hi
    have hlt : i < listed.size := by omega
    have hD : listed.getD i false = false := by
      rw [Array.getD_eq_getD_getElem?, Array.getElem?_eq_getElem hlt] at h2' ⊢
      exact h2'
    have hready : ∀ j ∈ depsAt (depsOf ops) i, listed.getD j false = true := fun j hj => by
      have ho : ops[i]? = some ops[i] := Array.getElem?_eq_getElem h1'
      obtain ⟨e, he, hb, hje⟩ := deps_mem ho hj
      have hon := h3' _ ho e he hb
      rcases hje with rfl | hje
      · exact hon
      · exact I.cl e.on hon j hje
    have hnext : ∀ ρ' eD' HD' E' pre' post' em' Hm' a' w', Inv P call ops base e0 h0 tr e1 h1 B w0 ρ0 N ds (addD (fun i => listed.getD i false) i) ρ' eD' HD' E' pre' post' em' Hm' a' w' → wpAny P .any ops (Post B w0 ρ0 N ds out s) fuel (listed.setIfInBounds i true) a' w' := by
      intro ρ' eD' HD' E' pre' post' em' Hm' a' w' I'
      have hDD : addD (fun i => listed.getD i false) i = fun j => (listed.setIfInBounds i true).getD j false := by
        funext j
        rw [Array.getD_eq_getD_getElem?, Array.getElem?_setIfInBounds]
        by_cases hij : i = j
        · subst hij
          simp [hlt, addD]
        · have hb : Nat.beq i j = false := by
            cases hq : Nat.beq i j with
            | false => rfl
            | true => exact absurd (Nat.eq_of_beq_eq_true hq) hij
          simp [hij, addD, hb]
      rw [hDD] at I'
      have hmem := hin i h1' hD
      refine ih (listed.setIfInBounds i true) (ul.erase i) ρ' eD' HD' E' pre' post' em' Hm' a' w' I' (by simp [hls]) (by rw [List.length_erase_of_mem hmem]; omega) (fun j hj hlj => ?_)
      have hne : i ≠ j := fun e => by
        subst e
        rw [Array.getD_eq_getD_getElem?, Array.getElem?_setIfInBounds] at hlj
        simp [hlt] at hlj
      have : listed.getD j false = false := by
        rw [Array.getD_eq_getD_getElem?, Array.getElem?_setIfInBounds, if_neg hne] at hlj
        rw [Array.getD_eq_getD_getElem?]; exact hlj
      exact (List.mem_erase_of_ne (Ne.symm hne)).2 (hin j hj this)
    have hmo := U.F.all i h1'
    rcases U.en with ⟨q1, q2, q3⟩ | ⟨i', rest, o, v, hord, hout, ho, hwt, hrest, henv, hpan⟩
    · rw [← q2] at hmo
      obtain ⟨x, hx, rfl⟩ := List.mem_map.1 hmo
      exact step_tr U hNb I hx hD hready hnext
    · rw [hord] at hmo
      rcases List.mem_append.1 hmo with hm | hm
      · obtain ⟨x, hx, rfl⟩ := List.mem_map.1 hm
        exact step_tr U hNb I hx hD hready hnext
      · rcases List.mem_cons.1 hm with rfl | hm
        · exact step_end U I hord hout ho hwt henv hpan hD hready
        · exfalso
          have := hready i' (hrest i hm)
          obtain ⟨x, hx, hxi⟩ := I.sub i' this
          obtain ⟨u, v', rfl⟩ := List.append_of_mem hx
          exact U.F.nodup (u.map (·.i)) (v'.map (·.i)) rest x.i i' (by rw [hord]; simp) hxi

end

end Go.Proofs.YtahdafekballcaaGreat.AM
