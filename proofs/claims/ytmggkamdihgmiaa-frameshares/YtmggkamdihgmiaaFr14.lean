/-
  The frame laws, part 14: two lists that grow side by side; a list behind itself.
-/
import Derived.Test.YtmggkamdihgmiaaFr1
import Derived.Test.YtmggkamdihgmiaaFr3
namespace Go.Proofs.Ytmggkamdihgmiaa.AM
open Go Go.Proofs
set_option linter.unusedVariables false
set_option linter.unusedSimpArgs false

/-- The block of a list. -/
def blk : AV → Option Nat
  | .slice b .. => some b
  | _ => none

theorem Own.blk {lo : Nat} {h : Heap} {a : AV} {l : List Int} (o : Own lo h a l) {b : Nat} (hb : blk a = some b) : lo ≤ b ∧ b < h.next := by
  rcases o with ⟨rfl, rfl⟩ | ⟨b', anc, rfl, g1, g2, g3, g4⟩
  · simp [AM.blk] at hb
  · simp only [AM.blk, Option.some.injEq] at hb
    omega

/-- A list of its own stays where its block stays. -/
theorem Own.stay {lo : Nat} {h h' : Heap} {a : AV} {l : List Int} (o : Own lo h a l) (hn : h.next ≤ h'.next) (hs : ∀ b, AM.blk a = some b → h'.get b = h.get b) : Own lo h' a l := by
  rcases o with ⟨rfl, rfl⟩ | ⟨b, anc, rfl, g1, g2, g3, g4⟩
  · exact .inl ⟨rfl, rfl⟩
  · exact .inr ⟨b, anc, rfl, by rw [hs b rfl]; exact g1, g2, by omega, g4⟩

/-- One number more; h is the heap as it is when the number's own block is made. -/
theorem Own.more2 {lo N : Nat} {h : Heap} {a : AV} {l : List Int} (o : Own lo h a l) (hN : ∀ b, AM.blk a = some b → b < N) (hlo : lo ≤ N) {f1 f2 : Nat} (h1 : N ≤ f1) (h2 : f1 < f2) (h3 : f2 < h.next) (x : Int) (hs : (l.length + 1) * 8 ≤ 140737488355328) :
    ∃ a' h', appendA Try.prog (newA h f1 [vi x]) f2 22 22 a (.slice f1 0 1 1 true 1) = some (a', h') ∧ Own lo h' a' (l ++ [x]) ∧ h'.next = h.next ∧ AM.blk a' = some f2 ∧ ∀ b, b < N → AM.blk a ≠ some b → h'.get b = h.get b := by
  obtain ⟨i, i1, i2, i3⟩ := info3
  have hrd : rdA (newA h f1 [vi x]) f1 = [vi x] := by unfold rdA newA; rw [Heap.get_put, if_pos rfl]
  have hc : cellsOfA (newA h f1 [vi x]) 1 (.slice f1 0 1 1 true 1) = some (1, [vi x]) := by
    simp only [cellsOfA, hrd]; rfl
  have e1 : isIntD (.slice 3) = false := rfl
  rcases o with ⟨rfl, rfl⟩ | ⟨b, anc, rfl, g1, g2, g3, g4⟩
  · refine ⟨.slice f2 0 1 1 false 1, newA (newA h f1 [vi x]) f2 [vi x], ?_, ?_⟩
    · simp only [appendA, und22, zero3, i1, i2, i3, hc, e1]; rfl
    · refine ⟨.inr ⟨f2, [], rfl, ?_, by omega, ?_, by simp⟩, rfl, rfl, fun b hb _ => ?_⟩
      · unfold newA; rw [Heap.get_put, if_pos rfl]; rfl
      · show f2 < h.next
        exact h3
      · unfold newA
        rw [Heap.get_put, if_neg (by omega), Heap.get_put, if_neg (by omega)]
  · have hbN : b < N := hN b rfl
    have hb : (newA h f1 [vi x]).get b = some (.cells (ints l) (.rw true) anc) := by
      unfold newA; rw [Heap.get_put, if_neg (by omega)]; exact g1
    have c1 : Nat.ble ((l.length + 1) * 8) 140737488355328 = true := by rw [Nat.ble_eq]; exact hs
    have c2 : Nat.ble (l.length + 1) 140737488355328 = true := by rw [Nat.ble_eq]; omega
    have c3 : Nat.ble (l.length + 1) l.length = false := by
      cases hh : Nat.ble (l.length + 1) l.length with
      | false => rfl
      | true => rw [Nat.ble_eq] at hh; omega
    have c4 : Nat.beq l.length (ints l).length = true := by rw [Nat.beq_eq, ints_length]
    have c5 : [vi x].all AV.isCell = true := rfl
    refine ⟨.slice f2 0 (l.length + 1) (l.length + 1) false 1, ((newA h f1 [vi x]).put b (some (.cells (ints l) .st anc))).put f2 (some (.cells (ints l ++ [vi x]) (.rw true) (b :: anc))), ?_, ?_⟩
    · simp only [appendA, und22, zero3, i1, i2, i3, hc, e1, c1, c2, c3, hb, Nat.mul_one, Nat.zero_add, cut_all, c4, c5, Bool.not_true, Bool.or_self, Bool.and_self, Bool.false_eq_true, if_false, if_true, Bool.or_false]
      rfl
    · refine ⟨.inr ⟨f2, b :: anc, by simp, ?_, by omega, ?_, by simp; omega⟩, rfl, rfl, fun c hc hne => ?_⟩
      · rw [Heap.get_put, if_pos rfl, ints_append]; rfl
      · show f2 < h.next
        exact h3
      · have : b ≠ c := fun e => hne (by rw [e]; rfl)
        unfold newA
        rw [Heap.get_put, if_neg (by omega), Heap.get_put, if_neg this, Heap.get_put, if_neg (by omega)]

/-! ### A list behind itself -/
theorem build0 (h : Heap) (f : Nat) : buildSliceA Try.prog h f 22 0 [] = some (.slice f 0 0 0 true 1, newA h f []) := by
  simp only [buildSliceA, und22, zero3]; rfl

theorem Holds.cells {h : Heap} {a : AV} {l : List Int} (hh : Holds h a l) : cellsOfA h 1 a = some (l.length, ints l) := by
  rcases hh with ⟨rfl, rfl⟩ | ⟨b, o, cap, ex, rfl, h1, h2, h3⟩
  · rfl
  · simp only [cellsOfA, Nat.mul_one, h1]; rfl

theorem app_two {h : Heap} {a : AV} {l : List Int} (hh : Holds h a l) (hl : 0 < l.length) (hs : (l.length + l.length) * 8 ≤ 140737488355328) {f1 f2 f3 n : Nat} (h1 : h.next ≤ f1) (h2 : f1 < f2) (h3 : f2 < f3) (h4 : f3 < h.next + n) :
    ∃ s2 g2 s3 g3, appendA Try.prog (newA (h.bump n) f1 []) f2 22 22 (.slice f1 0 0 0 true 1) a = some (s2, g2) ∧ appendA Try.prog g2 f3 22 22 s2 a = some (s3, g3) ∧ Kp h g3 ∧ Holds g3 s3 (l ++ l) := by
  obtain ⟨i, i1, i2, i3⟩ := info3
  have e1 : isIntD (.slice 3) = false := rfl
  have k1 : Kp h (newA (h.bump n) f1 []) := (Kp.bump h n).newA h1 _ _
  have c1 := (hh.ext k1).cells
  have z0 : Nat.beq l.length 0 = false := by
    cases hq : Nat.beq l.length 0 with
    | false => rfl
    | true => rw [Nat.beq_eq] at hq; omega
  have b1 : Nat.ble (l.length * 8) 140737488355328 = true := by rw [Nat.ble_eq]; omega
  have b2 : Nat.ble l.length 140737488355328 = true := by rw [Nat.ble_eq]; omega
  have b3 : Nat.ble ((l.length + l.length) * 8) 140737488355328 = true := by rw [Nat.ble_eq]; omega
  have b4 : Nat.ble (l.length + l.length) 140737488355328 = true := by rw [Nat.ble_eq]; omega
  have b5 : Nat.ble l.length 0 = false := by
    cases hq : Nat.ble l.length 0 with
    | false => rfl
    | true => rw [Nat.ble_eq] at hq; omega
  have b6 : Nat.ble (l.length + l.length) l.length = false := by
    cases hq : Nat.ble (l.length + l.length) l.length with
    | false => rfl
    | true => rw [Nat.ble_eq] at hq; omega
  have g1 : (newA (h.bump n) f1 []).get f1 = some (.cells [] (.rw true) []) := by unfold newA; rw [Heap.get_put, if_pos rfl]
  have q1 : cut ([] : List AV) 0 0 = some [] := rfl
  have k2 : Kp h (newA (newA (h.bump n) f1 []) f2 (ints l)) := k1.newA (by omega) _ _
  have c2 := (hh.ext k2).cells
  have g2 : (newA (newA (h.bump n) f1 []) f2 (ints l)).get f2 = some (.cells (ints l) (.rw true) []) := by unfold newA; rw [Heap.get_put, if_pos rfl]
  have c4 : Nat.beq l.length (ints l).length = true := by rw [Nat.beq_eq, ints_length]
  have c5 : (ints l).all AV.isCell = true := ints_cells l
  refine ⟨.slice f2 0 l.length l.length false 1, newA (newA (h.bump n) f1 []) f2 (ints l), .slice f3 0 (l.length + l.length) (l.length + l.length) false 1, ((newA (newA (h.bump n) f1 []) f2 (ints l)).put f2 (some (.cells (ints l) .st []))).put f3 (some (.cells (ints l ++ ints l) (.rw true) [f2])), ?_, ?_, ?_, ?_⟩
  · simp only [appendA, und22, zero3, i1, i2, i3, c1, e1, z0, b1, b2, b5, g1, q1, Nat.mul_one, Nat.zero_add, Bool.not_true, Bool.or_self, Bool.and_self, Bool.false_eq_true, if_false, if_true, Bool.or_false, List.nil_append, show Nat.beq 1 1 = true from rfl, show Nat.beq 1 0 = false from rfl, Bool.not_false]
  · simp only [appendA, und22, zero3, i1, i2, i3, c2, e1, z0, b3, b4, b6, g2, cut_all, c4, c5, Nat.mul_one, Nat.zero_add, Bool.not_true, Bool.or_self, Bool.and_self, Bool.false_eq_true, if_false, if_true, Bool.or_false, show Nat.beq 1 1 = true from rfl, show Nat.beq 1 0 = false from rfl, Bool.not_false]
  · exact (k2.put (by omega) _).put (by omega) _
  · refine .inr ⟨f3, 0, l.length + l.length, false, ?_, ?_, ?_, ?_, by simp only [List.length_append]; exact Nat.le_refl _⟩
    · simp only [List.length_append]
    · unfold rdA
      rw [Heap.get_put, if_pos rfl, ← ints_append]
      exact cut_all _
    · show f3 < h.next + n
      exact h4
    · simp only [List.length_append]; exact hs

end Go.Proofs.Ytmggkamdihgmiaa.AM
