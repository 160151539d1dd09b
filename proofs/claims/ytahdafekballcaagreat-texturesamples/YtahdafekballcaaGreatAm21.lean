/-
  AM, part 21: what is handed in.
-/
import Derived.Test.YtahdafekballcaaGreatAm20
namespace Go.Proofs.YtahdafekballcaaGreat.AM
open Go Go.RowKit
set_option linter.unusedVariables false
set_option linter.unusedSimpArgs false

/-- All that is known may be read alone. -/
def RoOnly (h : Heap) : Prop := ∀ c o, h.get c = some o → ∃ cs, o = .cells cs .ro []

theorem RoOnly.empty (n : Nat) : RoOnly ⟨n, .nil⟩ := fun c o h => by cases h

def intsK (k : IntKind) (l : List Int) : List AV := l.map fun n => .int k n

theorem cell_add {w : World} {a : Addr} {i : Nat} {v : Value} (h : w.cell? (a.add i) = some v) : ∃ cc T fz, w.heap[a.block]? = some (.cells cc T fz) ∧ cc[a.off + i]? = some v := by
  unfold World.cell? Addr.add at h
  by_cases hi : i = 0
  · subst hi
    rw [if_pos rfl] at h
    split at h
    · rename_i c T fz hh
      split at h
      · cases h
      · exact ⟨c, T, fz, hh, h⟩
    · cases h
  · rw [if_neg hi] at h
    split at h
    · rename_i c T fz hh
      split at h
      · cases h
      · exact ⟨c, T, fz, hh, h⟩
    · cases h

theorem cell_spot {w : World} {a : Addr} {v : Value} (h : w.cell? (a.add 0) = some v) : a.spot = none := by
  unfold World.cell? Addr.add at h
  rw [if_pos rfl] at h
  split at h
  · split at h
    · cases h
    · rename_i hs; cases hs' : a.spot with
      | none => rfl
      | some x => rw [hs'] at hs; simp at hs
  · cases h

theorem vrl_of_get {ρ : Rho} : ∀ (l : List AV) (m : List Value), l.length = m.length → (∀ i (h1 : i < l.length) (h2 : i < m.length), VR ρ l[i] m[i]) → VRL ρ l m
  | [], [], _, _ => .nil
  | [], _ :: _, h, _ => by simp at h
  | _ :: _, [], h, _ => by simp at h
  | a :: l, b :: m, h, hh => .cons _ _ _ _ (hh 0 (by simp) (by simp)) (vrl_of_get l m (by simpa using h) fun i h1 h2 => hh (i + 1) (by simp; omega) (by simp; omega))

/-- A slice of whole numbers that is handed in. -/
theorem Sim.ints {B : Nat} {w0 w : World} {ρ : Rho} {h : Heap} (S : Sim B w0 ρ h w) (hro : RoOnly h) {b : Nat} (hf : ρ b = none) (hn : h.get b = none) (hl : b < h.next) {k : IntKind} {a : Addr} {len cap : Nat} {zs : List Int} (hz : zs.length = cap) (hlen : len ≤ cap)
    (hc : ∀ i, i < zs.length → w.cell? (a.add i) = some (.int k (zs.getD i 0))) :
    ∃ ρ' h', Sim B w0 ρ' h' w ∧ RoOnly h' ∧ Ext ρ ρ' ∧ h'.next = h.next ∧ (∀ c, c ≠ b → ρ' c = ρ c ∧ h'.get c = h.get c) ∧ VR ρ' (.slice b 0 len cap true 1) (.slice (some a) len cap) ∧ cut (rdA h' b) 0 len = some (intsK k (zs.take len)) := by
  by_cases h0 : cap = 0
  · subst h0
    have hz0 : zs = [] := List.length_eq_zero_iff.mp hz
    have hl0 : len = 0 := by omega
    subst hz0 hl0
    refine ⟨ρ.put b ⟨0, 0, 0⟩, h, S.addRho hf hl _, hro, Rho.ext_put _ hf, rfl, fun c hcb => ⟨?_, rfl⟩, ?_, ?_⟩
    · unfold Rho.put; rw [if_neg (fun e => hcb e.symm)]
    · exact .slice b 0 0 0 true 1 ⟨0, 0, 0⟩ 0 a (by simp [Rho.put]) (Nat.le_refl _) (fun _ => rfl) (Nat.le_refl _) (.inl rfl)
    · unfold rdA; rw [hn]; rfl
  · obtain ⟨cc, T, fz, hb, hcc⟩ := cell_add (hc 0 (by omega))
    have hsp := cell_spot (hc 0 (by omega))
    have hall : ∀ i, i < zs.length → cc[a.off + i]? = some (.int k (zs.getD i 0)) := fun i hi => by
      obtain ⟨cc2, T2, fz2, hb2, hcc2⟩ := cell_add (hc i hi)
      rw [hb] at hb2
      cases hb2
      exact hcc2
    have hsz : a.off + cap ≤ cc.size := by
      have := hall (zs.length - 1) (by omega)
      have := (Array.getElem?_eq_some_iff.mp this).1
      omega
    have hlen2 : (intsK k zs).length = cap := by simp [intsK, hz]
    refine ⟨ρ.put b ⟨a.block, a.off, cc.size - a.off⟩, h.put b (some (.cells (intsK k zs) .ro [])), ?_, ?_, Rho.ext_put _ hf, rfl, fun c hcb => ⟨?_, ?_⟩, ?_, ?_⟩
    · refine S.addRo hf hl (p := ⟨a.block, a.off, cc.size - a.off⟩) hb (by show a.off + (cc.size - a.off) = cc.size; omega) (by rw [hlen2]; show cap ≤ cc.size - a.off; omega) ?_ ?_
      · refine vrl_of_get _ _ ?_ ?_
        · rw [hlen2]; simp; omega
        · intro i h1 h2
          rw [hlen2] at h1
          have hi := hall i (by omega)
          have e1 : (intsK k zs)[i]'(by rw [hlen2]; exact h1) = .int k (zs.getD i 0) := by
            simp [intsK, List.getD_eq_getElem?_getD, show i < zs.length by omega]
          have e2 : (List.take (intsK k zs).length (List.drop a.off cc.toList))[i]'h2 = .int k (zs.getD i 0) := by
            rw [List.getElem_take, List.getElem_drop]
            have := (Array.getElem?_eq_some_iff.mp hi).2
            simpa using this
          rw [e1]
          have : VR ρ (.int k (zs.getD i 0)) (.int k (zs.getD i 0)) := .int _ _
          exact e2 ▸ this
      · intro c o q hc _
        obtain ⟨cs, rfl⟩ := hro c o hc
        exact ⟨fun cs' md a' e pl hm => (by injection e with _ e2 _; subst e2; cases hm), fun es kk e => (by cases e)⟩
    · intro c o hc
      rw [Heap.get_put] at hc
      split at hc
      · exact ⟨_, (Option.some.inj hc).symm⟩
      · exact hro c o hc
    · unfold Rho.put; rw [if_neg (fun e => hcb e.symm)]
    · rw [Heap.get_put, if_neg (fun e => hcb e.symm)]
    · refine .slice b 0 len cap true 1 ⟨a.block, a.off, cc.size - a.off⟩ cap a (by simp [Rho.put]) (Nat.le_refl _) (fun _ => rfl) hlen (.inr ⟨?_, ?_⟩)
      · cases a with
        | mk blk off spot =>
          have : spot = none := hsp
          subst this
          rfl
      · show 0 + cap * 1 ≤ cc.size - a.off
        omega
    · unfold rdA
      rw [Heap.get_put, if_pos rfl]
      have : Nat.ble (0 + len) (intsK k zs).length = true := by rw [Nat.ble_eq, hlen2]; omega
      simp only [cut, this, cond_true, List.drop_zero]
      simp [intsK, List.map_take]

end Go.Proofs.YtahdafekballcaaGreat.AM
