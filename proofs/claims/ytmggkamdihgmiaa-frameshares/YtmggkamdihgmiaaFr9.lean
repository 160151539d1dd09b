/-
  The frame laws, part 9: whose turn it is.
-/
import Derived.Test.YtmggkamdihgmiaaFr1
namespace Go.Proofs.Ytmggkamdihgmiaa.AM
open Go Go.Proofs
set_option linter.unusedVariables false
set_option linter.unusedSimpArgs false

/-- Who has a tick, if there is anybody. -/
def whoS (l : List Int) (x : Int) : Int := l[(x % (l.length : Int)).toNat]?.getD 0

theorem atS_who (l : List Int) (t : Int) (n : Nat) : atS l t n = whoS l (t + n) := by
  unfold atS whoS
  rw [Int.emod_add_emod]

theorem whoS_period (l : List Int) (x : Int) : whoS l (x + l.length) = whoS l x := by
  unfold whoS
  rw [Int.add_emod_right]

/-- What Next answers. -/
def Nx (l : List Int) (t w r : Int) : Prop := (r = -1 ∧ ∀ m : Nat, m < l.length → whoS l (t + m) ≠ w) ∨ ∃ n : Nat, r = n ∧ n < l.length ∧ whoS l (t + n) = w ∧ ∀ m : Nat, m < n → whoS l (t + m) ≠ w

theorem nextF_nx (l : List Int) (t w : Int) : ∀ k n : Nat, k + n = l.length → (∀ m : Nat, m < n → whoS l (t + m) ≠ w) → Nx l t w (nextF l t w k n)
  | 0, n, h, hm => .inl ⟨rfl, fun m hl => hm m (by omega)⟩
  | k + 1, n, h, hm => by
    simp only [nextF, atS_who]
    by_cases hc : whoS l (t + n) = w
    · rw [if_pos hc]; exact .inr ⟨n, rfl, by omega, hc, hm⟩
    · rw [if_neg hc]
      refine nextF_nx l t w k (n + 1) (by omega) fun m hl => ?_
      by_cases hmn : m = n
      · subst hmn; exact hc
      · exact hm m (by omega)

theorem nextS_nx (l : List Int) {t : Int} (h : 0 ≤ t) (w : Int) : Nx l t w (nextS l t w) := by
  unfold nextS
  rw [if_neg (by omega)]
  exact nextF_nx l t w l.length 0 (by omega) fun m hl => by omega

theorem Nx.uniq {l : List Int} {t w r s : Int} (a : Nx l t w r) (b : Nx l t w s) : r = s := by
  rcases a with ⟨rfl, a1⟩ | ⟨n, rfl, a1, a2, a3⟩ <;> rcases b with ⟨rfl, b1⟩ | ⟨m, rfl, b1, b2, b3⟩
  · rfl
  · exact absurd b2 (a1 m b1)
  · exact absurd a2 (b1 n a1)
  · rcases Nat.lt_trichotomy n m with h | h | h
    · exact absurd a2 (b3 n h)
    · rw [h]
    · exact absurd b2 (a3 m h)

theorem ownerS_who {l : List Int} (hl : l ≠ []) {t : Int} (h : 0 ≤ t) : ownerS l t = whoS l t := by
  have hp : 0 < (l.length : Int) := by have := List.length_pos_iff.mpr hl; omega
  have h1 := Int.emod_lt_of_pos t hp
  have h0 := Int.emod_nonneg t (show (l.length : Int) ≠ 0 by omega)
  unfold ownerS whoS
  rw [if_neg hl, if_neg (by omega), List.getElem?_eq_getElem (by omega)]
  rfl

theorem ownerS_neg (l : List Int) {t : Int} (h : t < 0) : ownerS l t = -1 := by
  unfold ownerS
  by_cases hl : l = []
  · rw [if_pos hl]
  · rw [if_neg hl, if_pos h]

theorem nextS_neg (l : List Int) {t : Int} (h : t < 0) (w : Int) : nextS l t w = -1 := by
  unfold nextS; rw [if_pos h]

theorem whoS_mem {l : List Int} (hl : l ≠ []) (x : Int) : whoS l x ∈ l := by
  have hp : 0 < (l.length : Int) := by have := List.length_pos_iff.mpr hl; omega
  have h1 := Int.emod_lt_of_pos x hp
  have h0 := Int.emod_nonneg x (show (l.length : Int) ≠ 0 by omega)
  unfold whoS
  rw [List.getElem?_eq_getElem (by omega)]
  exact List.getElem_mem _

/-- Whoever is in the list has a tick within a round. -/
theorem whoS_has {l : List Int} {w : Int} (h : w ∈ l) (t : Int) : ∃ m : Nat, m < l.length ∧ whoS l (t + m) = w := by
  obtain ⟨i, hi, rfl⟩ := List.mem_iff_getElem.mp h
  have hp : 0 < (l.length : Int) := by omega
  have h1 := Int.emod_lt_of_pos ((i : Int) - t) hp
  have h0 := Int.emod_nonneg ((i : Int) - t) (show (l.length : Int) ≠ 0 by omega)
  refine ⟨(((i : Int) - t) % l.length).toNat, by omega, ?_⟩
  have e : (t + ((((i : Int) - t) % l.length).toNat : Nat)) % (l.length : Int) = i := by
    rw [Int.toNat_of_nonneg h0, Int.add_emod_emod, show t + ((i : Int) - t) = i by omega]
    exact Int.emod_eq_of_lt (by omega) (by omega)
  unfold whoS
  rw [e, Int.toNat_natCast, List.getElem?_eq_getElem hi]
  rfl

/-! ### What FrameTurns says -/
theorem nx_is {l : List Int} {t w r : Int} (a : Nx l t w r) : 0 ≤ r ↔ w ∈ l := by
  rcases a with ⟨rfl, a1⟩ | ⟨n, rfl, a1, a2, a3⟩
  · constructor
    · intro h; omega
    · intro h
      obtain ⟨m, h1, h2⟩ := whoS_has h t
      exact absurd h2 (a1 m h1)
  · constructor
    · intro _
      have hl : l ≠ [] := fun e => by subst e; simp at a1
      have := whoS_mem hl (t + n)
      rw [a2] at this; exact this
    · intro _; omega

theorem nx_bounds {l : List Int} {t w r : Int} (a : Nx l t w r) : -1 ≤ r ∧ (r < l.length) := by
  rcases a with ⟨rfl, a1⟩ | ⟨n, rfl, a1, a2, a3⟩ <;> omega

theorem nx_zero {l : List Int} {t w : Int} (h : 0 ≤ t) (a : Nx l t w 0) : ownerS l t = w := by
  rcases a with ⟨e, a1⟩ | ⟨n, e, a1, a2, a3⟩
  · omega
  · have hn : n = 0 := by omega
    subst hn
    have hl : l ≠ [] := fun e => by subst e; simp at a1
    rw [ownerS_who hl h]
    simpa using a2

theorem nx_pos {l : List Int} {t w r : Int} (h : 0 ≤ t) (a : Nx l t w r) (hr : 0 < r) : Nx l (t + 1) w (r - 1) ∧ ownerS l (t + r) = w ∧ ownerS l t ≠ w := by
  rcases a with ⟨e, a1⟩ | ⟨n, rfl, a1, a2, a3⟩
  · omega
  · have hl : l ≠ [] := fun e => by subst e; simp at a1
    refine ⟨.inr ⟨n - 1, by omega, by omega, ?_, fun m hm => ?_⟩, ?_, ?_⟩
    · rw [show t + 1 + ((n - 1 : Nat) : Int) = t + n by omega]; exact a2
    · rw [show t + 1 + (m : Int) = t + ((m + 1 : Nat) : Int) by omega]; exact a3 (m + 1) (by omega)
    · rw [ownerS_who hl (by omega)]; exact a2
    · rw [ownerS_who hl h]
      have := a3 0 (by omega)
      simpa using this

theorem nx_round {l : List Int} {t w r : Int} (a : Nx l t w r) : Nx l (t + l.length) w r := by
  have e : ∀ m : Nat, whoS l (t + l.length + m) = whoS l (t + m) := fun m => by
    rw [show t + (l.length : Int) + m = t + m + l.length by omega, whoS_period]
  rcases a with ⟨rfl, a1⟩ | ⟨n, rfl, a1, a2, a3⟩
  · exact .inl ⟨rfl, fun m hm => by rw [e]; exact a1 m hm⟩
  · exact .inr ⟨n, rfl, a1, by rw [e]; exact a2, fun m hm => by rw [e]; exact a3 m hm⟩

theorem ownerS_round (l : List Int) {t : Int} (h : 0 ≤ t) : ownerS l (t + l.length) = ownerS l t := by
  by_cases hl : l = []
  · subst hl; simp [ownerS]
  · rw [ownerS_who hl (by omega), ownerS_who hl h, whoS_period]

end Go.Proofs.Ytmggkamdihgmiaa.AM
