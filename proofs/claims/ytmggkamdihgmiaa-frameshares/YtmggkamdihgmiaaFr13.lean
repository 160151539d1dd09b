/-
  The frame laws, part 13: in a whole frame each has just its weight.
-/
import Derived.Test.YtmggkamdihgmiaaFr6
import Derived.Test.YtmggkamdihgmiaaFr9
namespace Go.Proofs.Ytmggkamdihgmiaa.AM
open Go Go.Proofs
set_option linter.unusedVariables false
set_option linter.unusedSimpArgs false

theorem bestF_max (o : List Int) : ∀ k i, i < k → getI o i ≤ getI o (bestF o k)
  | 0, i, h => by omega
  | k + 1, i, h => by
    rw [bestF]
    by_cases hik : i = k
    · subst hik
      split
      · exact Int.le_refl _
      · omega
    · have := bestF_max o k i (by omega)
      split
      · omega
      · exact this

theorem sum_addO : ∀ (o ws : List Int), o.length = ws.length → (addO o ws).sum = o.sum + ws.sum
  | [], [], _ => rfl
  | [], _ :: _, h => by simp at h
  | _ :: _, [], h => by simp at h
  | a :: o, b :: ws, h => by
    have := sum_addO o ws (by simpa using h)
    unfold addO at this ⊢
    simp only [List.zipWith_cons_cons, List.sum_cons, this]
    omega

theorem sum_set : ∀ (o : List Int) (b : Nat) (v : Int), b < o.length → (o.set b v).sum = o.sum - getI o b + v
  | [], b, v, h => by simp at h
  | a :: o, 0, v, h => by
    have : getI (a :: o) 0 = a := by unfold getI; simp
    rw [this]
    simp only [List.set_cons_zero, List.sum_cons]
    omega
  | a :: o, b + 1, v, h => by
    have e : getI (a :: o) (b + 1) = getI o b := by unfold getI; simp
    have := sum_set o b v (by simpa using h)
    rw [e]
    simp only [List.set_cons_succ, List.sum_cons, this]
    omega

theorem sum_nonpos : ∀ (o : List Int), (∀ x, x ∈ o → x ≤ 0) → o.sum ≤ 0
  | [], _ => by simp
  | a :: o, h => by
    have := sum_nonpos o fun x hx => h x (List.mem_cons_of_mem _ hx)
    have := h a List.mem_cons_self
    simp only [List.sum_cons]; omega

theorem sum_zero : ∀ (o : List Int), (∀ x, x ∈ o → 0 ≤ x) → o.sum = 0 → ∀ x, x ∈ o → x = 0
  | [], _, _, x, hx => by cases hx
  | a :: o, h, hs, x, hx => by
    have h1 := h a List.mem_cons_self
    have h2 : 0 ≤ o.sum := by
      have : ∀ (q : List Int), (∀ x, x ∈ q → 0 ≤ x) → 0 ≤ q.sum := by
        intro q
        induction q with
        | nil => intro _; simp
        | cons b q ih =>
          intro hq
          have := ih fun y hy => hq y (List.mem_cons_of_mem _ hy)
          have := hq b List.mem_cons_self
          simp only [List.sum_cons]; omega
      exact this o fun y hy => h y (List.mem_cons_of_mem _ hy)
    simp only [List.sum_cons] at hs
    rcases List.mem_cons.mp hx with rfl | hx
    · omega
    · exact sum_zero o (fun y hy => h y (List.mem_cons_of_mem _ hy)) (by omega) x hx

theorem ticks_sum (ws : List Int) (hn : ws ≠ []) : ∀ k, (ticksS ws.sum ws k).2.sum = 0
  | 0 => by simp [ticksS, sum_replicate]
  | k + 1 => by
    have hl := (ticksS_length ws.sum ws k).1
    have hp := List.length_pos_iff.mpr hn
    simp only [ticksS, tickS]
    have hal := addO_length hl
    rw [sum_set _ _ _ (bestF_lt _ _ (by omega)), sum_addO _ _ hl, ticks_sum ws hn k]
    omega

theorem best_pos {o : List Int} (h0 : 0 < o.length) (hs : 0 < o.sum) : 0 < getI o (bestF o o.length) := by
  apply Decidable.byContradiction
  intro hc
  have : o.sum ≤ 0 := sum_nonpos o fun x hx => by
    obtain ⟨i, hi, rfl⟩ := List.mem_iff_getElem.mp hx
    have := bestF_max o o.length i hi
    rw [getI_of hi] at this
    omega
  omega

theorem ticks_low {ws : List Int} (hn : ws ≠ []) (hp : 0 < ws.sum) (hw : ∀ i, 0 ≤ getI ws i) : ∀ k i, -ws.sum < getI (ticksS ws.sum ws k).2 i
  | 0, i => by
    have : getI (ticksS ws.sum ws 0).2 i = 0 := by
      simp only [ticksS]
      by_cases h : i < ws.length
      · rw [getI_of (by simpa using h)]; simp
      · rw [getI_out (by simp; omega)]
    omega
  | k + 1, i => by
    have hl := (ticksS_length ws.sum ws k).1
    have h1 := ticks_low hn hp hw k i
    have hal := addO_length hl
    have hb := best_pos (o := addO (ticksS ws.sum ws k).2 ws) (by rw [hal]; exact List.length_pos_iff.mpr hn) (by rw [sum_addO _ _ hl, ticks_sum ws hn]; omega)
    simp only [ticksS, tickS]
    rw [getI_set]
    have := hw i
    split
    · omega
    · rw [addO_getI hl]; omega

theorem ticks_count {ws : List Int} (S : Int) (hn : ws ≠ []) : ∀ (k i : Nat), i < ws.length → getI (ticksS S ws k).2 i = k * getI ws i - S * ((ticksS S ws k).1.count (i : Int) : Nat)
  | 0, i, hi => by
    simp only [ticksS]
    rw [getI_of (by simpa using hi)]; simp
  | k + 1, i, hi => by
    have hl := (ticksS_length S ws k).1
    have ih := ticks_count S hn k i hi
    have hal := addO_length hl
    simp only [ticksS, tickS]
    rw [getI_set, List.count_append]
    have ek : ((k + 1 : Nat) : Int) * getI ws i = k * getI ws i + getI ws i := by
      rw [Int.natCast_add, Int.add_mul]; simp
    by_cases hb : bestF (addO (ticksS S ws k).2 ws) (addO (ticksS S ws k).2 ws).length = i
    · rw [if_pos ⟨hb, by rw [hal]; exact hi⟩, hb, addO_getI hl, ih]
      have : List.count (i : Int) [(i : Int)] = 1 := by simp
      rw [this, ek]
      have ec : S * ((List.count (i : Int) (ticksS S ws k).1 + 1 : Nat) : Int) = S * (List.count (i : Int) (ticksS S ws k).1 : Nat) + S := by
        rw [Int.natCast_add, Int.mul_add]; simp
      rw [ec]
      omega
    · rw [if_neg (fun q => hb q.1), addO_getI hl, ih]
      have : List.count (i : Int) [((bestF (addO (ticksS S ws k).2 ws) (addO (ticksS S ws k).2 ws).length : Nat) : Int)] = 0 := by
        rw [List.count_eq_zero]
        intro q
        rw [List.mem_singleton] at q
        exact hb (by omega)
      rw [this]
      simp only [Nat.add_zero]
      omega

theorem ticks_in {ws : List Int} (S : Int) (hn : ws ≠ []) : ∀ (k : Nat) (x : Int), x ∈ (ticksS S ws k).1 → 0 ≤ x ∧ x < ws.length
  | 0, x, h => by simp [ticksS] at h
  | k + 1, x, h => by
    have hl := (ticksS_length S ws k).1
    have hal := addO_length hl
    simp only [ticksS, tickS, List.mem_append, List.mem_singleton] at h
    rcases h with h | h
    · exact ticks_in S hn k x h
    · have := bestF_lt (addO (ticksS S ws k).2 ws) (addO (ticksS S ws k).2 ws).length (by rw [hal]; exact List.length_pos_iff.mpr hn)
      omega

theorem sum_pos : ∀ {ws : List Int}, ws ≠ [] → (∀ w, w ∈ ws → 1 ≤ w) → 0 < ws.sum
  | [], h, _ => (h rfl).elim
  | [a], _, h => by have := h a List.mem_cons_self; simp; omega
  | a :: b :: ws, _, h => by
    have := sum_pos (ws := b :: ws) (by simp) fun w hw => h w (List.mem_cons_of_mem _ hw)
    have := h a List.mem_cons_self
    rw [List.sum_cons]; omega

theorem round_zero {ws : List Int} (hn : ws ≠ []) (h1 : ∀ w, w ∈ ws → 1 ≤ w) : (ticksS ws.sum ws ws.sum.toNat).2 = List.replicate ws.length 0 := by
  have hp := sum_pos hn h1
  have hl := (ticksS_length ws.sum ws ws.sum.toNat).1
  have hw : ∀ i, 0 ≤ getI ws i := fun i => by
    by_cases h : i < ws.length
    · have := h1 _ (getI_mem h); omega
    · rw [getI_out (by omega)]; omega
  have hge : ∀ x, x ∈ (ticksS ws.sum ws ws.sum.toNat).2 → 0 ≤ x := fun x hx => by
    obtain ⟨i, hi, rfl⟩ := List.mem_iff_getElem.mp hx
    have q1 := ticks_low hn hp hw ws.sum.toNat i
    have q2 := ticks_count ws.sum hn ws.sum.toNat i (by omega)
    rw [getI_of hi] at q1 q2
    have e : ((ws.sum.toNat : Nat) : Int) = ws.sum := by omega
    rw [e, ← Int.mul_sub] at q2
    rw [q2] at q1 ⊢
    have : -1 < getI ws i - (List.count (i : Int) (ticksS ws.sum ws ws.sum.toNat).1 : Nat) := by
      apply Int.lt_of_mul_lt_mul_left (a := ws.sum)
      · omega
      · omega
    exact Int.mul_nonneg (by omega) (by omega)
  have hz := sum_zero _ hge (ticks_sum ws hn _)
  rw [List.eq_replicate_iff]
  exact ⟨hl, hz⟩

theorem round_count {ws : List Int} (hn : ws ≠ []) (h1 : ∀ w, w ∈ ws → 1 ≤ w) {i : Nat} (hi : i < ws.length) : ((ticksS ws.sum ws ws.sum.toNat).1.count (i : Int) : Int) = getI ws i := by
  have hp := sum_pos hn h1
  have q2 := ticks_count ws.sum hn ws.sum.toNat i hi
  rw [round_zero hn h1] at q2
  have e0 : getI (List.replicate ws.length 0) i = 0 := by rw [getI_of (by simpa using hi)]; simp
  have e : ((ws.sum.toNat : Nat) : Int) = ws.sum := by omega
  rw [e0, e, ← Int.mul_sub] at q2
  have := Int.mul_eq_zero.mp q2.symm
  omega

theorem ticks_again {ws : List Int} (hn : ws ≠ []) (h1 : ∀ w, w ∈ ws → 1 ≤ w) : ∀ k, ticksS ws.sum ws (ws.sum.toNat + k) = ((ticksS ws.sum ws ws.sum.toNat).1 ++ (ticksS ws.sum ws k).1, (ticksS ws.sum ws k).2)
  | 0 => by
    rw [Nat.add_zero]
    apply Prod.ext
    · simp [ticksS]
    · simp only [ticksS]; exact round_zero hn h1
  | k + 1 => by
    rw [← Nat.add_assoc]
    simp only [ticksS, tickS, ticks_again hn h1 k, List.append_assoc]

/-- Twice the weights give the same frame twice. -/
theorem twice_frame {ws : List Int} (ok : OkW ws) (ok2 : OkW (ws.map (2 * ·))) : buildE (ws.map (2 * ·)) = (0, (buildE ws).2 ++ (buildE ws).2) := by
  obtain ⟨hn, _, h1, _⟩ := id ok
  have hp := sum_pos hn h1
  have hs : (ws.map (2 * ·)).sum = 2 * ws.sum := by
    clear ok2 hp
    clear h1
    clear hn
    clear ok
    rename_i q1 q2
    clear q1 q2
    induction ws with
    | nil => rfl
    | cons a ws ih => simp only [List.map_cons, List.sum_cons, ih]; omega
  have e : (2 * ws.sum).toNat = ws.sum.toNat + ws.sum.toNat := by omega
  unfold buildE
  rw [if_pos ok2, if_pos (by assumption), hs, ticksS_scale (by omega), e, ticks_again hn h1]

/-! ### Whoever has the ticks of a stretch -/
def occ (l : List Int) (t i : Int) : Nat → Int
  | 0 => 0
  | m + 1 => occ l t i m + if whoS l (t + m) = i then 1 else 0

theorem occ_shift (l : List Int) (t i : Int) : ∀ m : Nat, occ l (t + 1) i m = occ l t i (m + 1) - if whoS l t = i then 1 else 0
  | 0 => by simp [occ]
  | m + 1 => by
    rw [occ, occ_shift l t i m, occ]
    have : t + 1 + (m : Int) = t + ((m + 1 : Nat) : Int) := by omega
    rw [this]
    conv => rhs; rw [occ, occ]
    omega

theorem occ_next (l : List Int) (t i : Int) : occ l (t + 1) i l.length = occ l t i l.length := by
  rw [occ_shift, occ, whoS_period]
  omega

theorem occ_any (l : List Int) (i : Int) : ∀ t : Nat, occ l t i l.length = occ l 0 i l.length
  | 0 => rfl
  | t + 1 => by
    have := occ_next l t i
    rw [← occ_any l i t, ← this]
    simp

theorem occ_zero (l : List Int) (i : Int) : ∀ m : Nat, m ≤ l.length → occ l 0 i m = ((l.take m).count i : Nat)
  | 0, _ => by simp [occ]
  | m + 1, h => by
    have hm : m < l.length := by omega
    rw [occ, occ_zero l i m (by omega), List.take_succ_eq_append_getElem hm, List.count_append]
    have e : whoS l (0 + m) = l[m] := by
      unfold whoS
      have : ((0 + (m : Int)) % (l.length : Int)).toNat = m := by
        rw [Int.zero_add, Int.emod_eq_of_lt (by omega) (by omega)]; simp
      rw [this, List.getElem?_eq_getElem hm]; rfl
    rw [e]
    by_cases hq : l[m] = i
    · rw [if_pos hq, hq]; simp
    · rw [if_neg hq]
      have : List.count i [l[m]] = 0 := by
        rw [List.count_eq_zero]; intro q; rw [List.mem_singleton] at q; exact hq q.symm
      rw [this]; simp

theorem occ_whole (l : List Int) (i : Int) {t : Int} (ht : 0 ≤ t) : occ l t i l.length = (l.count i : Nat) := by
  have : t = (t.toNat : Int) := by omega
  rw [this, occ_any, occ_zero l i _ (Nat.le_refl _), List.take_length]

def cntS (l : List Int) (t : Int) (n : Nat) : Nat → List Int
  | 0 => List.replicate n 0
  | m + 1 => (cntS l t n m).set (whoS l (t + m)).toNat (getI (cntS l t n m) (whoS l (t + m)).toNat + 1)

theorem cntS_length (l : List Int) (t : Int) (n : Nat) : ∀ m, (cntS l t n m).length = n
  | 0 => by simp [cntS]
  | m + 1 => by simp [cntS, cntS_length l t n m]

theorem cntS_occ {l : List Int} {n : Nat} (hl : l ≠ []) (hin : ∀ x, x ∈ l → 0 ≤ x ∧ x < (n : Int)) (t : Int) {i : Nat} (hi : i < n) : ∀ m, getI (cntS l t n m) i = occ l t i m
  | 0 => by
    simp only [cntS, occ]
    rw [getI_of (by simpa using hi)]; simp
  | m + 1 => by
    have hw := hin _ (whoS_mem hl (t + m))
    rw [cntS, getI_set, occ, cntS_length]
    by_cases hq : whoS l (t + m) = i
    · rw [if_pos hq, if_pos ⟨by omega, hi⟩, hq]
      simp only [Int.toNat_natCast]
      rw [cntS_occ hl hin t hi m]
    · rw [if_neg hq, if_neg (fun q => hq (by omega)), cntS_occ hl hin t hi m]
      omega

theorem cnt_small {l : List Int} {n : Nat} (hl : l ≠ []) (hin : ∀ x, x ∈ l → 0 ≤ x ∧ x < (n : Int)) (t : Int) {i : Nat} (hi : i < n) (m : Nat) : 0 ≤ getI (cntS l t n m) i ∧ getI (cntS l t n m) i ≤ m := by
  rw [cntS_occ hl hin t hi]
  induction m with
  | zero => simp [occ]
  | succ m ih => rw [occ]; split <;> omega

end Go.Proofs.Ytmggkamdihgmiaa.AM
