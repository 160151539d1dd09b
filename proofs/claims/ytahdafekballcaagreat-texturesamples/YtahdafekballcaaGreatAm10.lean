/-
  AM, part 10: with more in the heap it comes to the same.
-/
import Derived.Test.YtahdafekballcaaGreatAm8
import Derived.Test.YtahdafekballcaaGreatAm9
namespace Go.Proofs.YtahdafekballcaaGreat.AM
open Go Go.RowKit
set_option linter.unusedVariables false
set_option linter.unusedSimpArgs false

variable {P : Program}

/-- h2 holds what h holds, and E besides. -/
structure HU (h : Heap) (E : Nat → Option AObj) (h2 : Heap) : Prop where
  next : h2.next = h.next
  get : ∀ b, h2.get b = match E b with
    | some o => some o
    | none => h.get b
  dis : ∀ b o, E b = some o → h.get b = none ∧ b < h.next
  anc : ∀ b cs md a, h.get b = some (.cells cs md a) → ∀ x ∈ a, E x = none

theorem HU.off {h h2 : Heap} {E : Nat → Option AObj} (u : HU h E h2) {b : Nat} {o : AObj} (hb : h.get b = some o) : E b = none := by
  cases he : E b with
  | none => rfl
  | some o' => have := (u.dis b o' he).1; rw [hb] at this; cases this

theorem HU.look {h h2 : Heap} {E : Nat → Option AObj} (u : HU h E h2) {b : Nat} {o : AObj} (hb : h.get b = some o) : h2.get b = some o := by
  rw [u.get, u.off hb]; exact hb

theorem HU.get_none {h h2 : Heap} {E : Nat → Option AObj} (u : HU h E h2) {b : Nat} (hb : E b = none) : h2.get b = h.get b := by
  rw [u.get, hb]

theorem HU.put {h h2 : Heap} {E : Nat → Option AObj} (u : HU h E h2) {b : Nat} (o : AObj) (hb : E b = none) (ha : ∀ cs md a, o = .cells cs md a → ∀ x ∈ a, E x = none) : HU (h.put b (some o)) E (h2.put b (some o)) :=
  { next := u.next
    get := fun c => by
      rw [Heap.get_put, Heap.get_put]
      by_cases hc : b = c
      · subst hc; rw [if_pos rfl, if_pos rfl, hb]
      · rw [if_neg hc, if_neg hc]; exact u.get c
    dis := fun c o' hc => by
      obtain ⟨h1, h2⟩ := u.dis c o' hc
      refine ⟨?_, h2⟩
      rw [Heap.get_put, if_neg (fun e => by subst e; rw [hb] at hc; cases hc)]
      exact h1
    anc := fun c cs md a hc => by
      rw [Heap.get_put] at hc
      split at hc
      · exact ha cs md a (Option.some.inj hc)
      · exact u.anc c cs md a hc }

theorem HU.del {h h2 : Heap} {E : Nat → Option AObj} (u : HU h E h2) {b : Nat} (hb : E b = none) : HU (h.put b none) E (h2.put b none) :=
  { next := u.next
    get := fun c => by
      rw [Heap.get_put, Heap.get_put]
      by_cases hc : b = c
      · subst hc; rw [if_pos rfl, if_pos rfl, hb]
      · rw [if_neg hc, if_neg hc]; exact u.get c
    dis := fun c o' hc => by
      obtain ⟨h1, h2⟩ := u.dis c o' hc
      refine ⟨?_, h2⟩
      rw [Heap.get_put]
      split
      · rfl
      · exact h1
    anc := fun c cs md a hc => by
      rw [Heap.get_put] at hc
      split at hc
      · cases hc
      · exact u.anc c cs md a hc }

theorem HU.drop : ∀ (bs : List Nat) {h h2 : Heap} {E : Nat → Option AObj}, HU h E h2 → (∀ x ∈ bs, E x = none) → HU (h.drop bs) E (h2.drop bs)
  | [], _, _, _, u, _ => u
  | b :: bs, _, _, _, u, hb => HU.drop bs (u.del (hb b (by simp))) (fun x hx => hb x (by simp [hx]))

theorem HU.bump {h h2 : Heap} {E : Nat → Option AObj} (u : HU h E h2) (n : Nat) : HU (h.bump n) E (h2.bump n) :=
  { next := by simp only [Heap.next_bump, u.next], get := u.get, dis := fun b o hb => ⟨(u.dis b o hb).1, Nat.lt_of_lt_of_le (u.dis b o hb).2 (Nat.le_add_right _ _)⟩, anc := u.anc }

theorem HU.refl (h : Heap) : HU h (fun _ => none) h := { next := rfl, get := fun _ => rfl, dis := (fun _ _ h => by cases h), anc := fun _ _ _ _ _ _ _ => rfl }

section ops
variable {h h2 : Heap} {E : Nat → Option AObj}

theorem rdA_hu1 (u : HU h E h2) {b o : Nat} {v : AV} (e : (rdA h b)[o]? = some v) : (rdA h2 b)[o]? = some v := by
  cases hg : h.get b with
  | none => unfold rdA at e; rw [hg] at e; simp at e
  | some ob =>
    unfold rdA at e ⊢
    rw [hg] at e
    rw [u.look hg]; exact e

theorem rdA_hu (u : HU h E h2) {b o n : Nat} {l : List AV} (e : cut (rdA h b) o n = some l) : cut (rdA h2 b) o n = some l := by
  cases hg : h.get b with
  | none =>
    have : rdA h b = [] := by unfold rdA; rw [hg]
    rw [this] at e
    obtain ⟨h1, h2', h3⟩ := cut_spec e
    simp only [List.length_nil] at h1
    obtain rfl : n = 0 := by omega
    obtain rfl : o = 0 := by omega
    unfold cut
    rw [cond_eq_ite, if_pos (by simp), h2']
    simp
  | some ob =>
    unfold rdA at e ⊢
    rw [hg] at e
    rw [u.look hg]; exact e

theorem loadA_hu (u : HU h E h2) {t : TypeId} {a v : AV} (e : loadA P h t a = some v) : loadA P h2 t a = some v := by
  unfold loadA at e ⊢
  split at e
  · rename_i b o
    split at e
    · split at e
      · rename_i n hn
        cases hc : cut (rdA h b) o n with
        | none => simp [hc] at e
        | some l => rw [rdA_hu u hc]; rw [hc] at e; exact e
      · simp at e
    · exact rdA_hu1 u e
    · simp at e
  · simp at e

theorem lookupA_hu (u : HU h E h2) {t : TypeId} {x k v : AV} {ok : Bool} (e : lookupA P h t x k ok = some v) : lookupA P h2 t x k ok = some v := by
  unfold lookupA at e ⊢
  split at e
  · split at e
    · cases x <;> first
        | exact e
        | (rename_i d hd r
           rw [cond_eq_ite] at e ⊢
           split at e
           · rename_i hk
             rw [if_pos hk]
             simp only at e ⊢
             split at e
             · rename_i hg; rw [u.look hg]; exact e
             · simp at e
           · simp at e)
    · simp at e
  · simp at e

theorem liveRw_hu (u : HU h E h2) {b : Nat} (hb : h.get b ≠ none) : liveRw h2 b = liveRw h b := by
  unfold liveRw
  cases hg : h.get b with
  | none => exact absurd hg hb
  | some o => rw [u.look hg]

theorem eqA_hu (u : HU h E h2) {t : TypeId} {c : Bool} {x y : AV} {r : Bool} (e : eqA P h t c x y = some r) : eqA P h2 t c x y = some r := by
  unfold eqA at e ⊢
  split at e
  case h_5 b o b' o' =>
    split at e
    · rename_i el hu
      split at e
      · rename_i n hn
        by_cases hbb : b = b'
        · rw [if_pos hbb] at e ⊢; exact e
        · rw [if_neg hbb] at e ⊢
          split at e
          · rename_i hl
            simp only [Bool.and_eq_true] at hl
            obtain ⟨_, _, h1⟩ := liveRw_spec hl.1
            obtain ⟨_, _, h2'⟩ := liveRw_spec hl.2
            rw [liveRw_hu u (by rw [h1]; simp), liveRw_hu u (by rw [h2']; simp), hl.1, hl.2]
            exact e
          · simp at e
      · simp at e
    · simp at e
  all_goals exact e

theorem binA_hu (u : HU h E h2) {op : BinOp} {t : TypeId} {c : Bool} {x y v : AV} (e : binA P h op t c x y = some v) : binA P h2 op t c x y = some v := by
  unfold binA at e ⊢
  split at e
  · exact e
  · exact e
  · exact e
  · split at e
    · cases he : eqA P h t c x y with
      | none => simp [he] at e
      | some r => rw [eqA_hu u he]; rw [he] at e; exact e
    · cases he : eqA P h t c x y with
      | none => simp [he] at e
      | some r => rw [eqA_hu u he]; rw [he] at e; exact e
    · simp at e

theorem sliceOfA_hu (u : HU h E h2) {t : TypeId} {x v : AV} {lo hi mx : Option AV} (e : sliceOfA P h t x lo hi mx = some v) : sliceOfA P h2 t x lo hi mx = some v := by
  unfold sliceOfA at e ⊢
  split at e
  case h_4 b o =>
    split at e
    · split at e
      · rename_i hs hg
        rw [hs, u.look hg]; exact e
      · simp at e
    · simp at e
  all_goals exact e

theorem lenA_hu (u : HU h E h2) {t : TypeId} {x v : AV} (e : lenA P h t x = some v) : lenA P h2 t x = some v := by
  unfold lenA at e ⊢
  split at e
  case h_4 =>
    split at e
    · exact e
    · split at e
      · rename_i hg; rw [u.look hg]; exact e
      · simp at e
    · simp at e
  all_goals exact e

theorem cellsOfA_hu (u : HU h E h2) {sz : Nat} {x : AV} {r : Nat × List AV} (e : cellsOfA h sz x = some r) : cellsOfA h2 sz x = some r := by
  unfold cellsOfA at e ⊢
  split at e
  case h_2 b o len cap ex sz' =>
    rw [cond_eq_ite] at e ⊢
    split at e
    · rename_i hc
      rw [if_pos hc]
      cases hcut : cut (rdA h b) o (len * sz) with
      | none => simp [hcut] at e
      | some l => rw [rdA_hu u hcut]; rw [hcut] at e; exact e
    · simp at e
  all_goals exact e

theorem pokeA_hu (u : HU h E h2) {b o : Nat} {vs : List AV} {h' : Heap} (e : pokeA h b o vs = some h') : ∃ h2', pokeA h2 b o vs = some h2' ∧ HU h' E h2' := by
  obtain ⟨cs, pl, anc, hg, hle, hall, rfl⟩ := pokeA_spec e
  refine ⟨(h2.drop anc).put b (some (.cells (lay cs o vs) (.rw pl) [])), ?_, ?_⟩
  · unfold pokeA
    rw [u.look hg]
    simp only
    rw [cond_eq_ite, if_pos (by simp only [Bool.and_eq_true]; exact ⟨Nat.ble_eq_true_of_le hle, hall⟩)]
  · exact (HU.drop anc u (u.anc _ _ _ _ hg)).put _ (u.off hg) (fun cs md a e x hx => by injection e with _ _ e3; subst e3; cases hx)

theorem storeA_hu (u : HU h E h2) {t : TypeId} {a v : AV} {h' : Heap} (e : storeA P h t a v = some h') : ∃ h2', storeA P h2 t a v = some h2' ∧ HU h' E h2' := by
  unfold storeA at e ⊢
  split at e
  · split at e
    · rw [cond_eq_ite] at e ⊢
      split at e
      · rename_i hc
        rw [if_pos hc]
        exact pokeA_hu u e
      · simp at e
    · simp at e
  · simp at e

theorem newA_hu (u : HU h E h2) {fresh : Nat} (hf : E fresh = none) (cs : List AV) (p : Bool) : HU (newA h fresh cs p) E (newA h2 fresh cs p) :=
  u.put _ hf (fun cs md a e x hx => by injection e with _ _ e3; subst e3; cases hx)

theorem appendA_hu (u : HU h E h2) {fresh : Nat} (hf : E fresh = none) {ts tx : TypeId} {s x v : AV} {h' : Heap} (e : appendA P h fresh ts tx s x = some (v, h')) :
    ∃ h2', appendA P h2 fresh ts tx s x = some (v, h2') ∧ HU h' E h2' := by
  unfold appendA at e ⊢
  split at e
  · split at e
    · split at e
      · simp at e
      · rename_i hc
        rw [if_neg hc]
        split at e
        · simp at e
        · rename_i hcs
          rw [cellsOfA_hu u hcs]
          simp only
          split at e
          · split at e
            · rename_i hn; rw [if_pos hn]
              obtain ⟨rfl, rfl⟩ := Prod.mk.inj (Option.some.inj e)
              exact ⟨h2, rfl, u⟩
            · rename_i hn; rw [if_neg hn]
              split at e
              · rename_i hb; rw [if_pos hb]
                obtain ⟨rfl, rfl⟩ := Prod.mk.inj (Option.some.inj e)
                exact ⟨_, rfl, newA_hu u hf _ _⟩
              · simp at e
          · split at e
            · simp at e
            · rename_i h1; rw [if_neg h1]
              split at e
              · rename_i hn; rw [if_pos hn]
                obtain ⟨rfl, rfl⟩ := Prod.mk.inj (Option.some.inj e)
                exact ⟨h2, rfl, u⟩
              · rename_i hn; rw [if_neg hn]
                split at e
                · simp at e
                · rename_i hb; rw [if_neg hb]
                  split at e
                  · rename_i hcap; rw [if_pos hcap]
                    split at e
                    · rename_i hpk
                      obtain ⟨rfl, rfl⟩ := Prod.mk.inj (Option.some.inj e)
                      obtain ⟨h2', k1, k2⟩ := pokeA_hu u hpk
                      rw [k1]
                      exact ⟨h2', rfl, k2⟩
                    · simp at e
                  · rename_i hcap; rw [if_neg hcap]
                    split at e
                    · rename_i cs md anc hg
                      rw [u.look hg]
                      simp only
                      split at e
                      · simp at e
                      · rename_i hcut
                        split at e
                        · rename_i hex; rw [if_pos hex]
                          obtain ⟨rfl, rfl⟩ := Prod.mk.inj (Option.some.inj e)
                          exact ⟨_, rfl, newA_hu u hf _ _⟩
                        · rename_i hex; rw [if_neg hex]
                          split at e
                          · split at e
                            · rename_i hend; rw [if_pos hend]
                              obtain ⟨rfl, rfl⟩ := Prod.mk.inj (Option.some.inj e)
                              refine ⟨_, rfl, ?_⟩
                              refine (u.put _ (u.off hg) (fun cs md a e x hx => ?_)).put _ hf (fun cs md a e x hx => ?_)
                              · injection e with _ _ e3; subst e3; exact u.anc _ _ _ _ hg x hx
                              · injection e with _ _ e3; subst e3
                                rcases List.mem_cons.1 hx with rfl | hx
                                · exact u.off hg
                                · exact u.anc _ _ _ _ hg x hx
                            · simp at e
                          · simp at e
                    · simp at e
          · simp at e
    · simp at e
  · simp at e

theorem copyA_hu (u : HU h E h2) {td : TypeId} {d s v : AV} {h' : Heap} (e : copyA P h td d s = some (v, h')) : ∃ h2', copyA P h2 td d s = some (v, h2') ∧ HU h' E h2' := by
  unfold copyA at e ⊢
  split at e
  · split at e
    · split at e
      · simp at e
      · rename_i hc; rw [if_neg hc]
        split at e
        · simp at e
        · rename_i hcs
          rw [cellsOfA_hu u hcs]
          simp only
          split at e
          · obtain ⟨rfl, rfl⟩ := Prod.mk.inj (Option.some.inj e)
            exact ⟨h2, rfl, u⟩
          · split at e
            · simp at e
            · rename_i h1; rw [if_neg h1]
              split at e
              · rename_i hn; rw [if_pos hn]
                obtain ⟨rfl, rfl⟩ := Prod.mk.inj (Option.some.inj e)
                exact ⟨h2, rfl, u⟩
              · rename_i hn; rw [if_neg hn]
                split at e
                · rename_i hpk
                  obtain ⟨rfl, rfl⟩ := Prod.mk.inj (Option.some.inj e)
                  obtain ⟨h2', k1, k2⟩ := pokeA_hu u hpk
                  rw [k1]
                  exact ⟨h2', rfl, k2⟩
                · simp at e
          · simp at e
    · simp at e
  · simp at e

theorem mapUpdateA_hu (u : HU h E h2) {t : TypeId} {m k v : AV} {h' : Heap} (e : mapUpdateA P h t m k v = some h') : ∃ h2', mapUpdateA P h2 t m k v = some h2' ∧ HU h' E h2' := by
  unfold mapUpdateA at e ⊢
  split at e
  · split at e
    · rw [cond_eq_ite] at e ⊢
      split at e
      · rename_i hk
        rw [if_pos hk]
        split at e
        · split at e
          · rename_i hg
            rw [u.look hg]
            simp only
            split at e
            · obtain rfl := Option.some.inj e
              exact ⟨_, rfl, u.put _ (u.off hg) (fun _ _ _ e => by cases e)⟩
            · obtain rfl := Option.some.inj e
              exact ⟨_, rfl, u.put _ (u.off hg) (fun _ _ _ e => by cases e)⟩
            · simp at e
          · simp at e
        · simp at e
      · simp at e
    · simp at e
  · simp at e

theorem convA_hu (u : HU h E h2) {fresh : Nat} (hf : E fresh = none) {s d : TypeId} {x v : AV} {h' : Heap} (e : convA P h fresh s d x = some (v, h')) : ∃ h2', convA P h2 fresh s d x = some (v, h2') ∧ HU h' E h2' := by
  unfold convA at e ⊢
  split at e
  · split at e
    · split at e
      · obtain ⟨rfl, rfl⟩ := Prod.mk.inj (Option.some.inj e); exact ⟨h2, rfl, u⟩
      · obtain ⟨rfl, rfl⟩ := Prod.mk.inj (Option.some.inj e); exact ⟨h2, rfl, u⟩
      · simp at e
    · split at e
      · obtain ⟨rfl, rfl⟩ := Prod.mk.inj (Option.some.inj e); exact ⟨h2, rfl, u⟩
      · split at e
        · rw [cond_eq_ite] at e ⊢
          split at e
          · rename_i hc; rw [if_pos hc]
            obtain ⟨rfl, rfl⟩ := Prod.mk.inj (Option.some.inj e)
            exact ⟨_, rfl, newA_hu u hf _ _⟩
          · simp at e
        · simp at e
      · simp at e
    · split at e
      · split at e
        · obtain ⟨rfl, rfl⟩ := Prod.mk.inj (Option.some.inj e); exact ⟨h2, rfl, u⟩
        · simp at e
      · simp at e
    · split at e
      · split at e
        · rw [cond_eq_ite] at e ⊢
          split at e
          · rename_i hc; rw [if_pos hc]
            split at e
            · rename_i l hcut
              rw [rdA_hu u hcut]
              simp only
              cases hb : bytesA l with
              | none => simp [hb] at e
              | some q =>
                simp only [hb, Option.map_some] at e ⊢
                obtain ⟨rfl, rfl⟩ := Prod.mk.inj (Option.some.inj e)
                exact ⟨h2, rfl, u⟩
            · simp at e
          · simp at e
        · simp at e
      · split at e
        · split at e
          · rename_i hc
            rw [if_pos hc]
            split at e
            · rename_i hg
              rw [u.look hg]
              obtain ⟨rfl, rfl⟩ := Prod.mk.inj (Option.some.inj e)
              exact ⟨_, rfl, u.put _ (u.off hg) (fun cs md a e x hx => by
                injection e with _ _ e3
                subst e3
                exact u.anc _ _ _ _ hg x hx)⟩
            · simp at e
          · simp at e
        · simp at e
      · simp at e
    · simp at e
  · simp at e

theorem rangeA_hu (u : HU h E h2) {fresh : Nat} (hf : E fresh = none) {s : List UInt8} {v : AV} {h' : Heap} (e : rangeA h fresh s = some (v, h')) : ∃ h2', rangeA h2 fresh s = some (v, h2') ∧ HU h' E h2' := by
  unfold rangeA at e ⊢
  obtain ⟨rfl, rfl⟩ := Prod.mk.inj (Option.some.inj e)
  exact ⟨_, rfl, u.put _ hf (fun cs md a e => by cases e)⟩

theorem nextA_hu (u : HU h E h2) {x v : AV} {h' : Heap} (e : nextA h x = some (v, h')) : ∃ h2', nextA h2 x = some (v, h2') ∧ HU h' E h2' := by
  unfold nextA at e ⊢
  split at e
  · split at e
    · rename_i hg
      rw [u.look hg]
      simp only
      rw [cond_eq_ite] at e ⊢
      split at e
      · rename_i hc
        rw [if_pos hc]
        obtain ⟨rfl, rfl⟩ := Prod.mk.inj (Option.some.inj e)
        exact ⟨_, rfl, u.put _ (u.off hg) (fun cs md a e => by cases e)⟩
      · rename_i hc
        rw [if_neg hc]
        obtain ⟨rfl, rfl⟩ := Prod.mk.inj (Option.some.inj e)
        exact ⟨h2, rfl, u⟩
    · simp at e
  · simp at e

theorem pureR_hu {r : Option AV} {v : AV} {h' : Heap} (u : HU h E h2) (e : pureR h r = some (.val v h')) : ∃ h2', pureR h2 r = some (.val v h2') ∧ HU h' E h2' := by
  obtain ⟨rfl, rfl⟩ := pureR_spec e
  exact ⟨h2, rfl, u⟩

theorem newR_hu {r r2 : Option (AV × Heap)} {v : AV} {h' : Heap} (e : newR r = some (.val v h')) (hr : ∀ v h', r = some (v, h') → ∃ h2', r2 = some (v, h2') ∧ HU h' E h2') : ∃ h2', newR r2 = some (.val v h2') ∧ HU h' E h2' := by
  obtain ⟨h2', k1, k2⟩ := hr v h' (newR_spec e)
  exact ⟨h2', by rw [k1]; rfl, k2⟩

theorem skipR_hu {r r2 : Option Heap} {v : AV} {h' : Heap} (e : skipR r = some (.val v h')) (hr : ∀ h', r = some h' → ∃ h2', r2 = some h2' ∧ HU h' E h2') : ∃ h2', skipR r2 = some (.val v h2') ∧ HU h' E h2' := by
  obtain ⟨k0, rfl⟩ := skipR_spec e
  obtain ⟨h2', k1, k2⟩ := hr h' k0
  exact ⟨h2', by rw [k1]; rfl, k2⟩

theorem pureR_hu2 {r r2 : Option AV} {v : AV} {h' : Heap} (u : HU h E h2) (e : pureR h r = some (.val v h')) (hr : ∀ v, r = some v → r2 = some v) : ∃ h2', pureR h2 r2 = some (.val v h2') ∧ HU h' E h2' := by
  obtain ⟨k, rfl⟩ := pureR_spec e
  exact ⟨h2, by rw [hr _ k]; rfl, u⟩

theorem bind2_hu {x y : Option AV} {f g : AV → AV → Option Res} {v : AV} {h' : Heap} (e : bind2 x y f = some (.val v h')) (hr : ∀ a b, f a b = some (.val v h') → ∃ h2', g a b = some (.val v h2') ∧ HU h' E h2') :
    ∃ h2', bind2 x y g = some (.val v h2') ∧ HU h' E h2' := by
  obtain ⟨a, b, rfl, rfl, e⟩ := bind2_spec e
  exact hr a b e

theorem clearA_hu (u : HU h E h2) {td : TypeId} {x v : AV} {h' : Heap} (e : clearA P h td x = some (v, h')) : ∃ h2', clearA P h2 td x = some (v, h2') ∧ HU h' E h2' := by
  unfold clearA at e ⊢
  split at e
  · split at e
    · obtain ⟨rfl, rfl⟩ := Prod.mk.inj (Option.some.inj e)
      exact ⟨h2, rfl, u⟩
    · split at e
      · rename_i hc
        rw [if_pos hc]
        obtain ⟨rfl, rfl⟩ := Prod.mk.inj (Option.some.inj e)
        exact ⟨h2, rfl, u⟩
      · rename_i hc
        rw [if_neg hc]
        split at e
        · split at e
          · rename_i hp
            rw [if_pos hp]
            split at e
            · rename_i hpk
              obtain ⟨rfl, rfl⟩ := Prod.mk.inj (Option.some.inj e)
              obtain ⟨h2', k1, k2⟩ := pokeA_hu u hpk
              rw [k1]
              exact ⟨h2', rfl, k2⟩
            · simp at e
          · simp at e
        · simp at e
    · simp at e
  · simp at e

theorem builtinA_hu (u : HU h E h2) {fresh : Nat} (hf : E fresh = none) {b : Builtin} {ts : List TypeId} {args : List AV} {v : AV} {h' : Heap} (e : builtinA P h fresh b ts args = some (.val v h')) :
    ∃ h2', builtinA P h2 fresh b ts args = some (.val v h2') ∧ HU h' E h2' := by
  unfold builtinA at e ⊢
  split at e
  · exact newR_hu e fun v h' k => appendA_hu u hf k
  · exact newR_hu e fun v h' k => copyA_hu u k
  · exact pureR_hu2 u e fun v k => lenA_hu u k
  · exact newR_hu e fun v h' k => clearA_hu u k
  · exact pureR_hu u e
  · exact pureR_hu u e
  · simp at e

theorem allocA_hu (u : HU h E h2) {fresh : Nat} (hf : E fresh = none) {t : TypeId} {v : AV} {h' : Heap} (e : allocA P h fresh t = some (v, h')) : ∃ h2', allocA P h2 fresh t = some (v, h2') ∧ HU h' E h2' := by
  unfold allocA at e ⊢
  split at e
  · split at e
    · obtain ⟨rfl, rfl⟩ := Prod.mk.inj (Option.some.inj e)
      exact ⟨_, rfl, newA_hu u hf _ _⟩
    · simp at e
  · simp at e
theorem boxA_hu (u : HU h E h2) {fresh : Nat} (hf : E fresh = none) {x v : AV} {h' : Heap} (e : boxA h fresh x = some (v, h')) : ∃ h2', boxA h2 fresh x = some (v, h2') ∧ HU h' E h2' := by
  unfold boxA at e ⊢
  split at e
  · obtain ⟨rfl, rfl⟩ := Prod.mk.inj (Option.some.inj e)
    exact ⟨_, rfl, newA_hu u hf _ _⟩
  · simp at e
theorem buildSliceA_hu (u : HU h E h2) {fresh : Nat} (hf : E fresh = none) {t : TypeId} {n : Nat} {ps : List (Nat × AV)} {v : AV} {h' : Heap} (e : buildSliceA P h fresh t n ps = some (v, h')) :
    ∃ h2', buildSliceA P h2 fresh t n ps = some (v, h2') ∧ HU h' E h2' := by
  unfold buildSliceA at e ⊢
  split at e
  · split at e
    · rw [cond_eq_ite] at e ⊢
      split at e
      · rename_i hc; rw [if_pos hc]
        split at e
        · obtain ⟨rfl, rfl⟩ := Prod.mk.inj (Option.some.inj e)
          exact ⟨_, rfl, newA_hu u hf _ _⟩
        · simp at e
      · simp at e
    · simp at e
  · simp at e
theorem makeSliceA_hu (u : HU h E h2) {fresh : Nat} (hf : E fresh = none) {t : TypeId} {l c v : AV} {h' : Heap} (e : makeSliceA P h fresh t l c = some (v, h')) :
    ∃ h2', makeSliceA P h2 fresh t l c = some (v, h2') ∧ HU h' E h2' := by
  unfold makeSliceA at e ⊢
  split at e
  · split at e
    · split at e
      · rename_i hb; rw [if_pos hb]
        rw [cond_eq_ite] at e ⊢
        split at e
        · rename_i hc; rw [if_pos hc]
          obtain ⟨rfl, rfl⟩ := Prod.mk.inj (Option.some.inj e)
          exact ⟨_, rfl, newA_hu u hf _ _⟩
        · simp at e
      · simp at e
    · simp at e
  · simp at e

/-- An operation, with more in the heap. -/
theorem execA_hu (u : HU h E h2) {e : Env} {fresh : Nat} (hf : E fresh = none) {o : Oper} {v : AV} {h' : Heap} (he : execA P e h fresh o = some (.val v h')) :
    ∃ h2', execA P e h2 fresh o = some (.val v h2') ∧ HU h' E h2' := by
  obtain ⟨dst, op, ty, pos, after, guard⟩ := o
  unfold execA at he ⊢
  cases op <;> simp only at he ⊢
  case move x => exact pureR_hu u he
  case assign x => exact pureR_hu u he
  case pick c x y =>
    split at he
    · exact pureR_hu u he
    · simp at he
  case alloc t => exact newR_hu he fun v h' k => allocA_hu u hf k
  case box t x =>
    split at he
    · exact newR_hu he fun v h' k => boxA_hu u hf k
    · simp at he
  case build t ps =>
    split at he
    · exact pureR_hu u he
    · simp at he
  case buildSlice t n ps =>
    split at he
    · exact newR_hu he fun v h' k => buildSliceA_hu u hf k
    · simp at he
  case load t x =>
    split at he
    · exact pureR_hu2 u he fun v k => loadA_hu u k
    · simp at he
  case store t x y => exact bind2_hu he fun a b k => skipR_hu k fun h' k => storeA_hu u k
  case nilCheck x =>
    split at he
    · injection he with he; injection he with e1 e2; subst e1 e2; exact ⟨h2, rfl, u⟩
    · injection he with he; injection he with e1 e2; subst e1 e2; exact ⟨h2, rfl, u⟩
    · simp at he
  case binOp op t x y yt => exact bind2_hu he fun a b k => pureR_hu2 u k fun v k => binA_hu u k
  case unOp op t x =>
    split at he
    · exact pureR_hu u he
    · simp at he
  case convert s d x =>
    split at he
    · exact newR_hu he fun v h' k => convA_hu u hf k
    · simp at he
  case makeInterface t x =>
    split at he
    · simp at he
    · rename_i d v2 hni hu hv
      injection he with he; injection he with e1 e2; subst e1 e2
      exact ⟨h2, rfl, u⟩
    · simp at he
  case makeFunc fn first captured =>
    cases fn <;> simp only at he ⊢ <;> first | (simp at he; done) | skip
    split at he
    · injection he with he; injection he with e1 e2; subst e1 e2; exact ⟨h2, rfl, u⟩
    · simp at he
  case makeMap t r =>
    cases r <;> simp only at he ⊢ <;> first | (simp at he; done) | skip
    injection he with he; injection he with e1 e2; subst e1 e2
    exact ⟨_, rfl, u.put _ hf (fun _ _ _ e => by cases e)⟩
  case makeSlice t l c => exact bind2_hu he fun a b k => newR_hu k fun v h' k => makeSliceA_hu u hf k
  case slice t x lo hi mx =>
    split at he
    · exact pureR_hu2 u he fun v k => sliceOfA_hu u k
    · simp at he
  case fieldAddr t x f =>
    split at he
    · exact pureR_hu u he
    · simp at he
  case field t x f =>
    split at he
    · exact pureR_hu u he
    · simp at he
  case indexAddr t x i => exact bind2_hu he fun a b k => pureR_hu u k
  case index t x i => exact bind2_hu he fun a b k => pureR_hu u k
  case lookup t m k ok => exact bind2_hu he fun a b k => pureR_hu2 u k fun v k => lookupA_hu u k
  case mapUpdate t m k v3 =>
    split at he
    · exact bind2_hu he fun a b k => skipR_hu k fun h' k => mapUpdateA_hu u k
    · simp at he
  case insert t m k v3 =>
    split at he
    · exact bind2_hu he fun a b k => skipR_hu k fun h' k => mapUpdateA_hu u k
    · simp at he
  case typeAssert x xt t ok =>
    split at he
    · exact pureR_hu u he
    · simp at he
  case sliceToArrayPointer arr x =>
    split at he
    · exact pureR_hu u he
    · simp at he
  case range t x =>
    split at he
    · exact newR_hu he fun v h' k => rangeA_hu u hf k
    · simp at he
  case next it str =>
    cases str with
    | false => simp at he
    | true =>
      simp only at he ⊢
      split at he
      · exact newR_hu he fun v h' k => nextA_hu u k
      · simp at he
  case extract t i =>
    split at he
    · exact pureR_hu u he
    · simp at he
  case call c =>
    split at he
    · simp at he
    · split at he
      · exact builtinA_hu u hf he
      · split at he
        · simp at he
        · simp at he
      · simp at he
  case panic x =>
    split at he
    · simp at he
    · simp at he
  all_goals (simp at he)

end ops

/-- Calls and panics do not look at the heap. -/
theorem execA_other {e : Env} {h : Heap} {fresh : Nat} {o : Oper} {r : Res} (he : execA P e h fresh o = some r) (hr : ∀ v h', r ≠ .val v h') (h2 : Heap) (fresh2 : Nat) : execA P e h2 fresh2 o = some r := by
  rcases execA_kinds he with ⟨v, h', e1⟩ | ⟨c, f, g, first, captured, args, h1, h3, h4, h5, h6⟩ | ⟨x, t, v, h1, h3, h4⟩
  · exact absurd e1 (hr v h')
  · subst h6
    unfold execA
    rw [h1]
    simp only [h5, h3, h4]
  · subst h4
    unfold execA
    rw [h1]
    simp only [h3]

end Go.Proofs.YtahdafekballcaaGreat.AM
