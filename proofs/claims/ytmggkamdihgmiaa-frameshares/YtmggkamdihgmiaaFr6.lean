/-
  The frame laws, part 6: frames of equal weights, and of weights times a number.
-/
import Derived.Test.YtmggkamdihgmiaaFr2
namespace Go.Proofs.Ytmggkamdihgmiaa.AM
open Go Go.Proofs
set_option linter.unusedVariables false
set_option linter.unusedSimpArgs false

theorem getI_map (c : Int) (l : List Int) (i : Nat) : getI (l.map (c * ·)) i = c * getI l i := by
  unfold getI
  rw [List.getElem?_map]
  cases l[i]? with
  | none => simp
  | some x => rfl

theorem bestF_map {c : Int} (hc : 0 < c) (o : List Int) : ∀ k, bestF (o.map (c * ·)) k = bestF o k
  | 0 => rfl
  | k + 1 => by
    simp only [bestF, bestF_map hc o k, getI_map]
    have : (c * getI o k > c * getI o (bestF o k)) ↔ getI o k > getI o (bestF o k) := by
      constructor
      · intro h; exact Int.lt_of_mul_lt_mul_left h (by omega)
      · intro h; exact Int.mul_lt_mul_of_pos_left h hc
    by_cases h : getI o k > getI o (bestF o k)
    · rw [if_pos h, if_pos (this.mpr h)]
    · rw [if_neg h, if_neg fun q => h (this.mp q)]

theorem addO_map (c : Int) (o ws : List Int) : addO (o.map (c * ·)) (ws.map (c * ·)) = (addO o ws).map (c * ·) := by
  unfold addO
  rw [List.zipWith_map, List.map_zipWith]
  congr 1
  funext a b
  rw [Int.mul_add]

theorem ticksS_scale {c : Int} (hc : 0 < c) (S : Int) (ws : List Int) : ∀ k, ticksS (c * S) (ws.map (c * ·)) k = ((ticksS S ws k).1, (ticksS S ws k).2.map (c * ·))
  | 0 => by simp [ticksS]
  | k + 1 => by
    simp only [ticksS, tickS, ticksS_scale hc S ws k, addO_map, List.length_map, bestF_map hc, getI_map]
    rw [← Int.mul_sub, List.map_set]

/-! ### Weights that are all 1 -/
def ramp (n r : Nat) : List Int := (List.range n).map fun i => if i < r then (r : Int) - n else r

theorem getI_ramp {n r i : Nat} (h : i < n) : getI (ramp n r) i = if i < r then (r : Int) - n else r := by
  unfold ramp
  rw [getI_of (by simpa using h)]; simp

def risen (n r : Nat) : List Int := (List.range n).map fun i => if i < r then (r : Int) + 1 - n else r + 1

theorem getI_risen {n r i : Nat} (h : i < n) : getI (risen n r) i = if i < r then (r : Int) + 1 - n else r + 1 := by
  unfold risen
  rw [getI_of (by simpa using h)]; simp

theorem addO_ramp (n r : Nat) : addO (ramp n r) (List.replicate n 1) = risen n r := by
  apply List.ext_getElem
  · simp [addO, ramp, risen]
  · intro i h1 h2
    have hn : i < n := by simpa [risen] using h2
    rw [← getI_of h1, ← getI_of h2, addO_getI (by simp [ramp]), getI_ramp hn, getI_risen hn, getI_of (by simpa using hn)]
    simp only [List.getElem_replicate]
    split <;> omega

theorem bestF_risen {n r : Nat} (hr : r < n) : ∀ k, k ≤ n → bestF (risen n r) k = if k ≤ r then 0 else r
  | 0, _ => by simp [bestF]
  | k + 1, h => by
    have g1 := getI_risen (n := n) (r := r) (i := k) (by omega)
    simp only [bestF, bestF_risen hr k (by omega)]
    by_cases h1 : k ≤ r
    · have g2 := getI_risen (n := n) (r := r) (i := 0) (by omega)
      rw [if_pos h1, g1, g2]
      by_cases h2 : k = r
      · rw [if_neg (show ¬ k < r by omega), if_neg (show ¬ k + 1 ≤ r by omega)]
        by_cases h3 : 0 < r
        · rw [if_pos h3, if_pos (by omega)]; exact h2
        · rw [if_neg h3, if_neg (by omega)]; omega
      · rw [if_pos (show k < r by omega), if_pos (show 0 < r by omega), if_pos (show k + 1 ≤ r by omega), if_neg (by omega)]
    · have g2 := getI_risen (n := n) (r := r) (i := r) hr
      rw [if_neg h1, g1, g2, if_neg (show ¬ k < r by omega), if_neg (show ¬ r < r by omega), if_neg (show ¬ k + 1 ≤ r by omega), if_neg (by omega)]

theorem set_risen {n r : Nat} (hr : r < n) : (risen n r).set r ((r : Int) + 1 - n) = ramp n (if r + 1 = n then 0 else r + 1) := by
  apply List.ext_getElem
  · simp [ramp, risen]
  · intro i h1 h2
    have hn : i < n := by simpa [ramp] using h2
    rw [← getI_of h1, ← getI_of h2, getI_set, getI_ramp hn, getI_risen hn]
    have : (risen n r).length = n := by simp [risen]
    by_cases h3 : r + 1 = n
    · rw [if_pos h3]
      by_cases h4 : r = i
      · rw [if_pos ⟨h4, by omega⟩]; simp; omega
      · rw [if_neg (fun q => h4 q.1), if_pos (by omega)]; simp; omega
    · rw [if_neg h3]
      by_cases h4 : r = i
      · rw [if_pos ⟨h4, by omega⟩, if_pos (by omega)]; omega
      · rw [if_neg (fun q => h4 q.1)]
        by_cases h5 : i < r
        · rw [if_pos h5, if_pos (by omega)]; omega
        · rw [if_neg h5, if_neg (by omega)]; omega

theorem ticks_ones {n : Nat} (hn : 0 < n) : ∀ k, ticksS (n : Int) (List.replicate n 1) k = ((List.range k).map (fun i => ((i % n : Nat) : Int)), ramp n (k % n))
  | 0 => by
    simp only [ticksS, List.range_zero, List.map_nil, List.length_replicate, Nat.zero_mod]
    congr 1
    apply List.ext_getElem
    · simp [ramp]
    · intro i h1 h2
      simp [ramp]
  | k + 1 => by
    have hm := Nat.mod_lt k hn
    have hl : (risen n (k % n)).length = n := by simp [risen]
    simp only [ticksS, tickS, ticks_ones hn k, addO_ramp, hl]
    rw [bestF_risen hm n (Nat.le_refl _), if_neg (by omega), getI_risen hm, if_neg (by omega), set_risen hm]
    rw [List.range_succ, List.map_append]
    congr 1
    congr 1
    by_cases h : k % n + 1 = n
    · rw [if_pos h]
      have : (k + 1) % n = 0 := by
        rw [Nat.add_mod]
        by_cases h1 : n = 1
        · subst h1; omega
        · rw [Nat.mod_eq_of_lt (show 1 < n by omega), h, Nat.mod_self]
      rw [this]
    · rw [if_neg h]
      have : (k + 1) % n = k % n + 1 := by
        rw [Nat.add_mod, Nat.mod_eq_of_lt (show 1 < n by omega), Nat.mod_eq_of_lt (by omega)]
      rw [this]

theorem sum_replicate (n : Nat) (w : Int) : (List.replicate n w).sum = n * w := by
  induction n with
  | zero => simp
  | succ n ih => rw [List.replicate_succ, List.sum_cons, ih]; simp [Int.add_mul]; omega

theorem equal_frame {n w : Nat} (h1 : 0 < n) (h2 : n ≤ 16) (h3 : 0 < w) (h4 : w ≤ 16) : buildE (List.replicate n (w : Int)) = (0, (List.range (n * w)).map fun i => ((i % n : Nat) : Int)) := by
  have hs := sum_replicate n (w : Int)
  have hnw : n * w ≤ 16 * 16 := Nat.mul_le_mul h2 h4
  have hc : ((n : Int) * w) = ((n * w : Nat) : Int) := by simp
  have ok : OkW (List.replicate n (w : Int)) := by
    refine ⟨?_, by simpa using h2, ?_, ?_⟩
    · intro q; have := congrArg List.length q; simp at this; omega
    · intro x hx
      rw [List.mem_replicate] at hx
      omega
    · rw [hs, hc]; omega
  unfold buildE
  rw [if_pos ok, hs]
  have e1 : List.replicate n (w : Int) = (List.replicate n (1 : Int)).map ((w : Int) * ·) := by simp
  have e2 : (n : Int) * (w : Int) = (w : Int) * n := Int.mul_comm _ _
  have e3 : ((w : Int) * n).toNat = n * w := by rw [← e2, hc, Int.toNat_natCast]
  rw [e1, e2, ticksS_scale (by omega), ticks_ones h1, e3]

end Go.Proofs.Ytmggkamdihgmiaa.AM
