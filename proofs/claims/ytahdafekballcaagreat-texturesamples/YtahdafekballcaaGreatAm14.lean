/-
  AM, part 14: a region that draws its order comes to what the one order comes to.
-/
import Derived.Test.YtahdafekballcaaGreatAm13
namespace Go.Proofs.YtahdafekballcaaGreat.AM
open Go Go.RowKit
set_option linter.unusedVariables false
set_option linter.unusedSimpArgs false

variable {P : Program}

/-! ### A number that is kept is not met -/
structure Clean (h : Heap) (b : Nat) : Prop where
  off : h.get b = none
  lt : b < h.next
  anc : ∀ c cs md a, h.get c = some (.cells cs md a) → b ∉ a

theorem Clean.hu {h : Heap} {b : Nat} (c : Clean h b) : HU h (fun x => if x = b then some (.map [] 0) else none) (h.put b (some (.map [] 0))) :=
  { next := rfl
    get := fun x => by
      rw [Heap.get_put]
      by_cases hx : b = x
      · subst hx; simp
      · have : ¬ (x = b) := fun e => hx e.symm
        simp [hx, this]
    dis := fun x o hx => by
      split at hx
      · rename_i e; subst e; exact ⟨c.off, c.lt⟩
      · cases hx
    anc := fun x cs md a hx y hy => by
      rw [if_neg]
      intro e; subst e
      exact c.anc x cs md a hx hy }

theorem HU.clean {h h2 : Heap} {E : Nat → Option AObj} (u : HU h E h2) {b : Nat} {o : AObj} (hb : E b = some o) : Clean h b :=
  { off := (u.dis b o hb).1, lt := (u.dis b o hb).2, anc := fun c cs md a hc hx => by have := u.anc c cs md a hc b hx; rw [hb] at this; cases this }

theorem Clean.exec {e : Env} {h h' : Heap} {fresh b : Nat} {o : Oper} {v : AV} (c : Clean h b) (hb : b ≠ fresh) (he : execA P e h fresh o = some (.val v h')) : Clean h' b := by
  obtain ⟨h2', _, k⟩ := execA_hu c.hu (by simp [Ne.symm hb]) he
  exact k.clean (o := .map [] 0) (by simp)

theorem Clean.call {call : CallT} (hC : CallHU call) {f : FuncId} {args : List AV} {h h' : Heap} {r : Fin} {b : Nat} (c : Clean h b) (he : call f args h = some (r, h')) : Clean h' b := by
  obtain ⟨h2', _, k⟩ := hC _ _ _ _ _ _ _ he c.hu
  exact k.clean (o := .map [] 0) (by simp)

/-! ### What has been carried out -/
section
variable (P) (call : CallT) (ops : Array Oper) (base : Nat)

/-- An entry tells the truth. -/
def Good (x : Ent) : Prop := ∃ o, ops[x.i]? = some o ∧
  ((x.skip = true ∧ wantedA ops x.e o = some false ∧ x.v = undefA ∧ x.h' = x.h) ∨
   (x.skip = false ∧ wantedA ops x.e o = some true ∧ (execA P x.e x.h (base + x.i) o = some (.val x.v x.h') ∨ ∃ f args, execA P x.e x.h (base + x.i) o = some (.enter f args) ∧ call f args x.h = some (.ret x.v, x.h'))))

inductive Chain : Env → Heap → List Ent → Env → Heap → Prop where
  | nil (e : Env) (h : Heap) : Chain e h [] e h
  | cons (x : Ent) (e1 : Env) (tr : List Ent) (e' : Env) (h' : Heap) (g : Good P call ops base x) (hp : putA x.e ((ops[x.i]?).bind (·.dst)) x.v = some e1) (ht : Chain e1 x.h' tr e' h') : Chain x.e x.h (x :: tr) e' h'

/-- How the one order ended. -/
def Ends (tr : List Ent) (l : List Nat) (out : Out) (s : St) (e' : Env) (h' : Heap) : Prop :=
  (out = .norm ∧ tr.map (·.i) = l ∧ s = ⟨e', h'⟩) ∨
  (∃ i rest o v, l = tr.map (·.i) ++ i :: rest ∧ out = .panic v ∧ ops[i]? = some o ∧ wantedA ops e' o = some true ∧ (∀ j ∈ rest, i ∈ depsAt (depsOf ops) j) ∧ s.env = junkAll ops.toList e' ∧
    ((execA P e' h' (base + i) o = some (.panic v) ∧ s.heap = h') ∨ ∃ f args, execA P e' h' (base + i) o = some (.enter f args) ∧ call f args h' = some (.panic v, s.heap)))
end

theorem runL_chain {call : CallT} {ops : Array Oper} {base : Nat} : ∀ {l : List Nat} {e : Env} {h : Heap} {tr : List Ent} {out : Out} {s : St}, runL P call ops base l e h = some (tr, out, s) →
    ∃ e' h', Chain P call ops base e h tr e' h' ∧ Ends P call ops base tr l out s e' h'
  | [], e, h, tr, out, s, he => by
    simp only [runL] at he
    obtain ⟨rfl, he'⟩ := Prod.mk.inj (Option.some.inj he)
    obtain ⟨rfl, rfl⟩ := Prod.mk.inj he'
    exact ⟨e, h, .nil e h, .inl ⟨rfl, rfl, rfl⟩⟩
  | i :: l, e, h, tr, out, s, he => by
    have cons : ∀ {x : Ent} {o : Oper} {e1 : Env} {tr' : List Ent} {out' : Out} {s' : St}, x.i = i → x.e = e → x.h = h → ops[i]? = some o → Good P call ops base x → putA e o.dst x.v = some e1 → runL P call ops base l e1 x.h' = some (tr', out', s') →
        ∃ e' h', Chain P call ops base e h (x :: tr') e' h' ∧ Ends P call ops base (x :: tr') (i :: l) out' s' e' h' := by
      intro x o e1 tr' out' s' hi hxe hxh ho g hp hr
      obtain ⟨e', h', k1, k2⟩ := runL_chain hr
      subst hxe hxh hi
      refine ⟨e', h', .cons x e1 tr' e' h' g (by rw [ho]; exact hp) k1, ?_⟩
      rcases k2 with ⟨q1, q2, q3⟩ | ⟨i2, rest, o2, v, q1, q2⟩
      · exact .inl ⟨q1, by rw [List.map_cons, q2], q3⟩
      · exact .inr ⟨i2, rest, o2, v, by rw [q1]; simp, q2⟩
    simp only [runL] at he
    split at he
    · simp at he
    · rename_i o ho
      split at he
      · simp at he
      · rename_i hw
        split at he
        · simp at he
        · rename_i e1 hp
          split at he
          · rename_i tr' out' s' hr
            obtain ⟨rfl, he'⟩ := Prod.mk.inj (Option.some.inj he)
            obtain ⟨rfl, rfl⟩ := Prod.mk.inj he'
            exact cons (x := ⟨i, true, e, h, undefA, h⟩) rfl rfl rfl ho ⟨o, ho, .inl ⟨rfl, hw, rfl, rfl⟩⟩ hp hr
          · simp at he
      · rename_i hw
        split at he
        · simp at he
        · rename_i v h1 hx
          split at he
          · simp at he
          · rename_i e1 hp
            split at he
            · rename_i tr' out' s' hr
              obtain ⟨rfl, he'⟩ := Prod.mk.inj (Option.some.inj he)
              obtain ⟨rfl, rfl⟩ := Prod.mk.inj he'
              exact cons (x := ⟨i, false, e, h, v, h1⟩) rfl rfl rfl ho ⟨o, ho, .inr ⟨rfl, hw, .inl hx⟩⟩ hp hr
            · simp at he
        · rename_i f args hx
          split at he
          · rename_i v h1 hcall
            split at he
            · simp at he
            · rename_i e1 hp
              split at he
              · rename_i tr' out' s' hr
                obtain ⟨rfl, he'⟩ := Prod.mk.inj (Option.some.inj he)
                obtain ⟨rfl, rfl⟩ := Prod.mk.inj he'
                exact cons (x := ⟨i, false, e, h, v, h1⟩) rfl rfl rfl ho ⟨o, ho, .inr ⟨rfl, hw, .inr ⟨f, args, hx, hcall⟩⟩⟩ hp hr
              · simp at he
          · rename_i v h1 hcall
            split at he
            · rename_i hall
              obtain ⟨rfl, he'⟩ := Prod.mk.inj (Option.some.inj he)
              obtain ⟨rfl, rfl⟩ := Prod.mk.inj he'
              exact ⟨e, h, .nil e h, .inr ⟨i, l, o, v, rfl, rfl, ho, hw, fun j hj => by simpa using List.all_eq_true.1 hall j hj, rfl, .inr ⟨f, args, hx, hcall⟩⟩⟩
            · simp at he
          · simp at he
        · rename_i v hx
          split at he
          · rename_i hall
            obtain ⟨rfl, he'⟩ := Prod.mk.inj (Option.some.inj he)
            obtain ⟨rfl, rfl⟩ := Prod.mk.inj he'
            exact ⟨e, h, .nil e h, .inr ⟨i, l, o, v, rfl, rfl, ho, hw, fun j hj => by simpa using List.all_eq_true.1 hall j hj, rfl, .inl ⟨hx, rfl⟩⟩⟩
          · simp at he

/-! ### The text's facts -/
theorem depsL_len : ∀ (os : List Oper) (acc : List (List Nat)), (depsL os acc).length = acc.length + os.length
  | [], acc => by simp [depsL]
  | o :: os, acc => by simp only [depsL]; rw [depsL_len os]; simp; omega

theorem depsL_pre : ∀ (os : List Oper) (acc : List (List Nat)) (i : Nat), i < acc.length → (depsL os acc)[i]? = acc[i]?
  | [], acc, i, h => rfl
  | o :: os, acc, i, h => by
    simp only [depsL]
    rw [depsL_pre os _ i (by simp; omega), List.getElem?_append_left h]

theorem depsL_mem : ∀ (os : List Oper) (acc : List (List Nat)) (k : Nat) (o : Oper), os[k]? = some o → ∀ j ∈ depsAt (depsL os acc) (acc.length + k), ∃ e ∈ o.after.toList, binds? e = true ∧ (j = e.on ∨ j ∈ depsAt (depsL os acc) e.on)
  | [], acc, k, o, h => by simp at h
  | o0 :: os, acc, 0, o, h => by
    simp at h; subst h
    intro j hj
    simp only [depsL] at hj ⊢
    have hget : (depsL os (acc ++ [uniq (o0.after.toList.foldr (fun e s => if binds? e then e.on :: ((acc[e.on]?).getD []) ++ s else s) [])]))[acc.length + 0]? = some (uniq (o0.after.toList.foldr (fun e s => if binds? e then e.on :: ((acc[e.on]?).getD []) ++ s else s) [])) := by
      rw [depsL_pre _ _ _ (by simp)]
      simp
    unfold depsAt at hj
    rw [hget, Option.getD_some, mem_uniq] at hj
    have key : ∀ (es : List Edge), j ∈ es.foldr (fun e s => if binds? e then e.on :: ((acc[e.on]?).getD []) ++ s else s) [] → ∃ e ∈ es, binds? e = true ∧ (j = e.on ∨ j ∈ (acc[e.on]?).getD []) := by
      intro es
      induction es with
      | nil => intro h; simp at h
      | cons e es ih =>
        intro h
        simp only [List.foldr_cons] at h
        split at h
        · rename_i hb
          simp only [List.cons_append, List.mem_cons, List.mem_append] at h
          rcases h with h | h | h
          · exact ⟨e, by simp, hb, .inl h⟩
          · exact ⟨e, by simp, hb, .inr h⟩
          · obtain ⟨e', h1, h2⟩ := ih h
            exact ⟨e', by simp [h1], h2⟩
        · obtain ⟨e', h1, h2⟩ := ih h
          exact ⟨e', by simp [h1], h2⟩
    obtain ⟨e, h1, h2, h3⟩ := key _ hj
    refine ⟨e, h1, h2, ?_⟩
    rcases h3 with h3 | h3
    · exact .inl h3
    · right
      unfold depsAt
      by_cases hlt : e.on < acc.length
      · rw [depsL_pre _ _ _ (by simp; omega), List.getElem?_append_left hlt]; exact h3
      · rw [List.getElem?_eq_none (by omega)] at h3; simp at h3
  | o0 :: os, acc, k + 1, o, h => by
    intro j hj
    simp only [depsL] at hj ⊢
    have := depsL_mem os (acc ++ [uniq (o0.after.toList.foldr (fun e s => if binds? e then e.on :: ((acc[e.on]?).getD []) ++ s else s) [])]) k o (by simpa using h) j (by
      rw [show (acc ++ [uniq (o0.after.toList.foldr (fun e s => if binds? e then e.on :: ((acc[e.on]?).getD []) ++ s else s) [])]).length + k = acc.length + (k + 1) by simp; omega]
      exact hj)
    exact this

theorem deps_mem {ops : Array Oper} {i : Nat} {o : Oper} (ho : ops[i]? = some o) {j : Nat} (hj : j ∈ depsAt (depsOf ops) i) : ∃ e ∈ o.after.toList, binds? e = true ∧ (j = e.on ∨ j ∈ depsAt (depsOf ops) e.on) := by
  have := depsL_mem ops.toList [] i o (by rw [Array.getElem?_toList]; exact ho) j (by simpa [depsOf] using hj)
  simpa [depsOf] using this

theorem deps_edge_aux : ∀ (os : List Oper) (acc : List (List Nat)) (k : Nat) (o : Oper), os[k]? = some o → ∀ e ∈ o.after.toList, binds? e = true → e.on ∈ depsAt (depsL os acc) (acc.length + k)
  | [], acc, k, o, h => by simp at h
  | o0 :: os, acc, 0, o, h => by
    simp at h; subst h
    intro e he hb
    simp only [depsL]
    unfold depsAt
    rw [depsL_pre _ _ _ (by simp)]
    simp only [Nat.add_zero, List.getElem?_append_right (Nat.le_refl _), Nat.sub_self, List.getElem?_cons_zero, Option.getD_some]
    have key : ∀ (es : List Edge), e ∈ es → e.on ∈ es.foldr (fun e s => if binds? e then e.on :: ((acc[e.on]?).getD []) ++ s else s) [] := by
      intro es
      induction es with
      | nil => intro h; simp at h
      | cons e' es ih =>
        intro h
        simp only [List.foldr_cons]
        rcases List.mem_cons.1 h with rfl | h
        · rw [if_pos hb]; simp
        · split
          · simp only [List.cons_append, List.mem_cons, List.mem_append]
            exact .inr (.inr (ih h))
          · exact ih h
    rw [mem_uniq]
    exact key _ he
  | o0 :: os, acc, k + 1, o, h => by
    intro e he hb
    simp only [depsL]
    have := deps_edge_aux os (acc ++ [uniq (o0.after.toList.foldr (fun e s => if binds? e then e.on :: ((acc[e.on]?).getD []) ++ s else s) [])]) k o (by simpa using h) e he hb
    rw [show (acc ++ [uniq (o0.after.toList.foldr (fun e s => if binds? e then e.on :: ((acc[e.on]?).getD []) ++ s else s) [])]).length + k = acc.length + (k + 1) by simp; omega] at this
    exact this

theorem deps_edge {ops : Array Oper} {i : Nat} {o : Oper} (ho : ops[i]? = some o) {e : Edge} (he : e ∈ o.after.toList) (hb : binds? e = true) : e.on ∈ depsAt (depsOf ops) i := by
  have := deps_edge_aux ops.toList [] i o (by rw [Array.getElem?_toList]; exact ho) e he hb
  simpa [depsOf] using this

/-- The pairs of a list. -/
theorem allPairs_spec {f : Nat → Nat → Bool} : ∀ {l : List Nat}, allPairs f l = true → ∀ a b c x y, l = a ++ x :: b ++ y :: c → f x y = true
  | [], _, a, b, c, x, y, e => by simp at e
  | z :: l, h, a, b, c, x, y, e => by
    simp only [allPairs, Bool.and_eq_true] at h
    cases a with
    | nil =>
      simp only [List.nil_append, List.cons_append] at e
      obtain ⟨rfl, rfl⟩ := List.cons.inj e
      exact List.all_eq_true.1 h.1 y (by simp)
    | cons w a =>
      simp only [List.cons_append] at e
      obtain ⟨_, e⟩ := List.cons.inj e
      exact allPairs_spec h.2 a b c x y e

structure Facts (P : Program) (ops : Array Oper) (ord : List Nat) : Prop where
  all : ∀ i, i < ops.size → i ∈ ord
  lt : ∀ i ∈ ord, i < ops.size
  dlt : ∀ i, i < ops.size → ∀ j ∈ depsAt (depsOf ops) i, j < ops.size ∧ i ≠ j
  nodup : ∀ a b c x y, ord = a ++ x :: b ++ y :: c → x ≠ y
  lin : ∀ a b c x y, ord = a ++ x :: b ++ y :: c → y ∉ depsAt (depsOf ops) x
  dst : ∀ i j, i < ops.size → j < ops.size → i ≠ j → ∀ t, (ops.getD i default).dst = some t → (ops.getD j default).dst ≠ some t
  look : ∀ i j, i < ops.size → j < ops.size → i ≠ j → ∀ t, (ops.getD i default).dst = some t → t ∈ (ops.getD j default).looksAt ops → i ∈ depsAt (depsOf ops) j ∨ j ∈ depsAt (depsOf ops) i
  act : ∀ a b c x y, ord = a ++ x :: b ++ y :: c → kindOf P (ops.getD x default) = .act → kindOf P (ops.getD y default) = .act → x ∈ depsAt (depsOf ops) y
  mact : ∀ a b c x y, ord = a ++ x :: b ++ y :: c → kindOf P (ops.getD x default) = .make → kindOf P (ops.getD y default) = .act → x ∈ depsAt (depsOf ops) y
  ract : ∀ a b c x y, ord = a ++ x :: b ++ y :: c → kindOf P (ops.getD x default) = .act → kindOf P (ops.getD y default) = .read → x ∈ depsAt (depsOf ops) y
  rmake : ∀ a b c x y, ord = a ++ x :: b ++ y :: c → kindOf P (ops.getD x default) = .make → kindOf P (ops.getD y default) = .read →
    x ∈ depsAt (depsOf ops) y ∨ ∃ k, k < ops.size ∧ x ∈ depsAt (depsOf ops) k ∧ k ∈ depsAt (depsOf ops) y

theorem bitAt_eq (m i : Nat) : bitAt m i = m.testBit i := by
  unfold bitAt Nat.testBit
  have h2 : Nat.shiftRight m i = m >>> i := rfl
  rw [h2]
  have h3 : Nat.land (m >>> i) 1 = 1 &&& (m >>> i) := by
    exact Nat.and_comm (m >>> i) 1
  rw [h3, Nat.one_and_eq_mod_two]
  rcases Nat.mod_two_eq_zero_or_one (m >>> i) with h | h <;> rw [h] <;> rfl

theorem bit_dep {ops : Array Oper} {i j : Nat} : bitAt (rowOf P ops (depsOf ops) j).mask i = true ↔ i ∈ depsAt (depsOf ops) j := by
  rw [bitAt_eq]
  exact mem_maskOf

theorem allPairsR_spec {f : Row → Row → Bool} {g : Nat → Row} : ∀ {l : List Nat}, allPairsR f (l.map g) = true → ∀ a b c x y, l = a ++ x :: b ++ y :: c → f (g x) (g y) = true
  | [], _, a, b, c, x, y, e => by simp at e
  | z :: l, h, a, b, c, x, y, e => by
    simp only [List.map_cons, allPairsR, Bool.and_eq_true] at h
    cases a with
    | nil =>
      simp only [List.nil_append, List.cons_append] at e
      obtain ⟨rfl, rfl⟩ := List.cons.inj e
      exact List.all_eq_true.1 h.1 (g y) (by simp)
    | cons w a =>
      simp only [List.cons_append] at e
      obtain ⟨_, e⟩ := List.cons.inj e
      exact allPairsR_spec h.2 a b c x y e

/-- Two members of a list, one of them first. -/
theorem two_of {l : List Nat} {x y : Nat} (hx : x ∈ l) (hy : y ∈ l) (hne : x ≠ y) : (∃ a b c, l = a ++ x :: b ++ y :: c) ∨ (∃ a b c, l = a ++ y :: b ++ x :: c) := by
  obtain ⟨a, r, rfl⟩ := List.append_of_mem hx
  rcases List.mem_append.1 hy with h | h
  · obtain ⟨p, q, rfl⟩ := List.append_of_mem h
    exact .inr ⟨p, q, r, by simp⟩
  · rcases List.mem_cons.1 h with h | h
    · exact absurd h.symm hne
    · obtain ⟨p, q, rfl⟩ := List.append_of_mem h
      exact .inl ⟨a, p, q, by simp⟩

theorem drawOk_facts {ops : Array Oper} {ord : List Nat} (h : drawOk P ops ord = true) : Facts P ops ord := by
  unfold drawOk at h
  simp only [Bool.and_eq_true] at h
  obtain ⟨⟨⟨⟨h1, h2⟩, h3⟩, h4⟩, h5⟩ := h
  have hall : ∀ i, i < ops.size → i ∈ ord := fun i hi => by simpa using List.all_eq_true.1 h1 i (List.mem_range.2 hi)
  have hlt : ∀ i ∈ ord, i < ops.size := fun i hi => Nat.le_of_ble_eq_true (List.all_eq_true.1 h2 i hi)
  have hp : ∀ a b c x y, ord = a ++ x :: b ++ y :: c → pairOk (ord.map (rowOf P ops (depsOf ops))) (rowOf P ops (depsOf ops) x) (rowOf P ops (depsOf ops) y) = true := fun a b c x y e => allPairsR_spec h5 a b c x y e
  have hp1 : ∀ a b c x y, ord = a ++ x :: b ++ y :: c → bitAt (rowOf P ops (depsOf ops) x).mask y = false ∧ slotOk (rowOf P ops (depsOf ops) x) (rowOf P ops (depsOf ops) y) = true ∧ kindsOk (ord.map (rowOf P ops (depsOf ops))) (rowOf P ops (depsOf ops) x) (rowOf P ops (depsOf ops) y) = true := fun a b c x y e => by
    have := hp a b c x y e
    unfold pairOk at this
    simp only [Bool.and_eq_true, Bool.not_eq_true'] at this
    exact ⟨this.1.1, this.1.2, this.2⟩
  have hd : ∀ i, (rowOf P ops (depsOf ops) i).dst = (ops.getD i default).dst := fun i => rfl
  have hk : ∀ i, (rowOf P ops (depsOf ops) i).kind = kindOf P (ops.getD i default) := fun i => rfl
  have hl : ∀ i, (rowOf P ops (depsOf ops) i).looks = (ops.getD i default).looksAt ops := fun i => rfl
  have hi : ∀ i, (rowOf P ops (depsOf ops) i).i = i := fun i => rfl
  have hslot : ∀ x y, slotOk (rowOf P ops (depsOf ops) x) (rowOf P ops (depsOf ops) y) = true → (∀ t, (ops.getD x default).dst = some t → (ops.getD y default).dst ≠ some t ∧ (t ∈ (ops.getD y default).looksAt ops → x ∈ depsAt (depsOf ops) y ∨ y ∈ depsAt (depsOf ops) x)) ∧
      (∀ t, (ops.getD y default).dst = some t → t ∈ (ops.getD x default).looksAt ops → x ∈ depsAt (depsOf ops) y ∨ y ∈ depsAt (depsOf ops) x) := by
    intro x y hs
    unfold slotOk at hs
    rw [Bool.and_eq_true, hd, hd, hl, hl, hi, hi] at hs
    refine ⟨fun t ht => ?_, fun t ht hm => ?_⟩
    · have h := hs.1
      rw [ht] at h
      simp only [Bool.and_eq_true, bne_iff_ne, Bool.or_eq_true, Bool.not_eq_true', bit_dep] at h
      refine ⟨h.1, fun hm => ?_⟩
      rcases h.2 with (h | h) | h
      · exact absurd (List.contains_iff_mem.2 hm) (by rw [h]; simp)
      · exact .inl h
      · exact .inr h
    · have h := hs.2
      rw [ht] at h
      simp only [Bool.or_eq_true, Bool.not_eq_true', bit_dep] at h
      rcases h with (h | h) | h
      · exact absurd (List.contains_iff_mem.2 hm) (by rw [h]; simp)
      · exact .inl h
      · exact .inr h
  refine { all := hall, lt := hlt, dlt := ?_, nodup := ?_, lin := ?_, dst := ?_, look := ?_, act := ?_, mact := ?_, ract := ?_, rmake := ?_ }
  · intro i hi' j hj
    have := List.all_eq_true.1 h3 (rowOf P ops (depsOf ops) i) (List.mem_map.2 ⟨i, hall i hi', rfl⟩)
    simp only [Bool.and_eq_true, Bool.not_eq_true'] at this
    have hb := bit_dep (P := P).2 hj
    refine ⟨?_, fun e => ?_⟩
    · rw [bitAt_eq] at hb
      have h1 := Nat.ge_two_pow_of_testBit hb
      have h2 : (rowOf P ops (depsOf ops) i).mask < 2 ^ ops.size := by have := this.1; rwa [Nat.blt_eq] at this
      exact (Nat.pow_lt_pow_iff_right (by omega)).1 (Nat.lt_of_le_of_lt h1 h2)
    · subst e
      have h2 := this.2
      rw [hi] at h2
      rw [h2] at hb
      cases hb
  · intro a b c x y e hxy
    have := allPairs_spec h4 a b c x y e
    subst hxy
    simp at this
  · intro a b c x y e hm
    have := (hp1 a b c x y e).1
    rw [bit_dep.2 hm] at this
    cases this
  · intro i j hi' hj hij t ht
    rcases two_of (hall i hi') (hall j hj) hij with ⟨a, b, c, e⟩ | ⟨a, b, c, e⟩
    · exact ((hslot i j (hp1 a b c i j e).2.1).1 t ht).1
    · intro hj2
      exact ((hslot j i (hp1 a b c j i e).2.1).1 t hj2).1 ht
  · intro i j hi' hj hij t ht hm
    rcases two_of (hall i hi') (hall j hj) hij with ⟨a, b, c, e⟩ | ⟨a, b, c, e⟩
    · exact ((hslot i j (hp1 a b c i j e).2.1).1 t ht).2 hm
    · exact ((hslot j i (hp1 a b c j i e).2.1).2 t ht hm).symm
  · intro a b c x y e hx hy
    have := (hp1 a b c x y e).2.2
    unfold kindsOk at this
    rw [hk, hk, hx, hy, hi] at this
    exact bit_dep.1 this
  · intro a b c x y e hx hy
    have := (hp1 a b c x y e).2.2
    unfold kindsOk at this
    rw [hk, hk, hx, hy, hi] at this
    exact bit_dep.1 this
  · intro a b c x y e hx hy
    have := (hp1 a b c x y e).2.2
    unfold kindsOk at this
    rw [hk, hk, hx, hy, hi] at this
    exact bit_dep.1 this
  · intro a b c x y e hx hy
    have := (hp1 a b c x y e).2.2
    unfold kindsOk at this
    rw [hk, hk, hx, hy, hi] at this
    simp only [Bool.or_eq_true] at this
    rcases this with this | this
    · exact .inl (bit_dep.1 this)
    · right
      obtain ⟨q, hq1, hq2⟩ := List.any_eq_true.1 this
      obtain ⟨k, hk1, rfl⟩ := List.mem_map.1 hq1
      simp only [Bool.and_eq_true] at hq2
      exact ⟨k, hlt k hk1, bit_dep.1 hq2.1.2, bit_dep.1 hq2.2⟩

end Go.Proofs.YtahdafekballcaaGreat.AM
