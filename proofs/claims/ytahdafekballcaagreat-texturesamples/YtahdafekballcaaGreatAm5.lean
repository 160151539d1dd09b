/-
  AM, part 5: composites, make, append, copy, maps, conversions.
-/
import Derived.Test.YtahdafekballcaaGreatAm4
namespace Go.Proofs.YtahdafekballcaaGreat.AM
open Go Go.RowKit
set_option linter.unusedVariables false
set_option linter.unusedSimpArgs false

variable {P : Program} {ρ : Rho} {B : Nat} {w0 w : World} {h : Heap}

theorem run_mapM_fields (fs : Array Field) (hall : ∀ f ∈ fs.toList, (sizeA P f.type).isSome = true) :
    (fs.mapM (m := Sem) fun f => do pure (f.offset, ← sizeOf f.type)).run P w = .ok (fs.map fun f => (f.offset, (sizeA P f.type).getD 0)) w := by
  obtain ⟨l⟩ := fs
  rw [List.mapM_toArray, Sem.run_map]
  have hm : ∀ (l : List Field), (∀ f ∈ l, (sizeA P f.type).isSome = true) → (l.mapM (m := Sem) fun f => do pure (f.offset, ← sizeOf f.type)).run P w = .ok (l.map fun f => (f.offset, (sizeA P f.type).getD 0)) w := by
    intro l
    induction l with
    | nil => intro _; simp
    | cons f l ih =>
      intro hall
      obtain ⟨n, hn⟩ := Option.isSome_iff_exists.1 (hall f (by simp))
      rw [List.mapM_cons]
      simp only [Sem.run_bind, run_sizeOf' hn, Result.andThen_ok, Sem.run_pure, ih (fun g hg => hall g (by simp [hg])), List.map_cons, hn, Option.getD_some]
  rw [hm l hall]
  simp

theorem buildA_ok {t : TypeId} {ps : List (Nat × AV)} {ps' : Array (Nat × Value)} {v : AV} (e : buildA P t ps = some v) (hp : PR ρ ps ps'.toList) : ∃ v', (Instr.build t ps').run P w = .ok v' w ∧ VR ρ v v' := by
  unfold buildA at e
  split at e
  · rename_i z hz
    split at e
    · simp at e
    · rename_i zero hzero
      obtain ⟨zv, h1, h2⟩ := run_zeroValue' hz w ρ
      have hzr := h2.cells hzero
      split at e
      · rename_i fs hu
        rw [cond_eq_ite] at e
        split at e
        · rename_i hs
          cases hf : fillA (fieldAt? P fs) zero ps with
          | none => simp [hf] at e
          | some r =>
            simp only [hf, Option.map_some] at e
            obtain rfl := Option.some.inj e
            have hall : ∀ f ∈ fs.toList, (sizeA P f.type).isSome = true := by
              intro f hf
              unfold sizesOk at hs
              rw [← Array.all_toList] at hs
              exact List.all_eq_true.1 hs f hf
            obtain ⟨r', k1, k2⟩ := fillA_ok (place' := fun i => (fs.map fun f => (f.offset, (sizeA P f.type).getD 0))[i]?) (by
              intro i x hx
              unfold fieldAt? at hx
              split at hx
              · rename_i fd hfd
                split at hx
                · rename_i n hn
                  obtain rfl := Option.some.inj hx
                  simp [hfd, hn]
                · simp at hx
              · simp at hx) hp hzr hf
            refine ⟨.agg r', ?_, .agg _ _ k2⟩
            have hmA := run_mapM_fields (P := P) (w := w) fs hall
            simp only [Instr.build, Sem.run_bind, h1, Result.andThen_ok, run_underlying hu]
            rw [hmA]
            simp only [Result.andThen_ok, k1]
            rfl
        · simp at e
      · rename_i n el hu
        split at e
        · rename_i sz hsz
          cases hf : fillA (fun i => some (i * sz, sz)) zero ps with
          | none => simp [hf] at e
          | some r =>
            simp only [hf, Option.map_some] at e
            obtain rfl := Option.some.inj e
            obtain ⟨r', k1, k2⟩ := fillA_ok (place' := fun i => some (i * sz, sz)) (fun i x hx => hx) hp hzr hf
            refine ⟨.agg r', ?_, .agg _ _ k2⟩
            simp only [Instr.build, Sem.run_bind, h1, Result.andThen_ok, run_underlying hu, run_sizeOf' hsz, k1]
            rfl
        · simp at e
      · simp at e
  · simp at e

theorem length_times : ∀ (n : Nat) (l : List AV), (times n l).length = n * l.length
  | 0, l => by simp [times]
  | n + 1, l => by simp only [times, List.length_append, length_times n l, Nat.add_mul, Nat.one_mul]; omega

theorem get_times : ∀ (n : Nat) (l : List AV) (i : Nat), i < n * l.length → (times n l)[i]? = l[i % l.length]?
  | 0, l, i, h => by simp at h
  | n + 1, l, i, h => by
    simp only [times]
    by_cases hi : i < l.length
    · rw [List.getElem?_append_left hi, Nat.mod_eq_of_lt hi]
    · rw [List.getElem?_append_right (by omega), get_times n l (i - l.length) (by rw [Nat.add_mul, Nat.one_mul] at h; omega)]
      rw [Nat.mod_eq_sub_mod (a := i) (by omega)]

theorem times_rel {n : Nat} {z : List AV} {z' : Array Value} (hz : VRL ρ z z'.toList) (hpos : 0 < z.length) : VRL ρ (times n z) ((Array.range (n * z.length)).map (z'[· % z'.size]!)).toList := by
  have hl : z.length = z'.size := by rw [VRL.length hz]; simp
  refine VRL.of_get (by simp [length_times]) ?_
  intro i v hv
  have hi : i < n * z.length := by
    have := (List.getElem?_eq_some_iff.1 hv).1
    rwa [length_times] at this
  rw [get_times n z i hi] at hv
  obtain ⟨v', e1, e2⟩ := VRL.get hz _ _ hv
  refine ⟨v', ?_, e2⟩
  have hm : i % z'.size < z'.size := Nat.mod_lt _ (by omega)
  rw [hl] at e1 hi
  rw [Array.getElem?_toList, Array.getElem?_eq_getElem hm] at e1
  simp only [Array.toList_map, List.getElem?_map, Array.toList_range, List.getElem?_range, hl, hi, if_true, Option.map_some]
  rw [getElem!_pos z' (i % z'.size) hm]
  exact e1

theorem zeroCellsA_spec {t : TypeId} {z : List AV} (e : zeroCellsA P t = some z) : ∃ zv n, zeroA P t = some zv ∧ sizeA P t = some n ∧ zv.cells = some z ∧ z.length = n := by
  unfold zeroCellsA at e
  split at e
  · rename_i zv n h1 h2
    split at e
    · rename_i l hl
      rw [cond_eq_ite] at e
      split at e
      · rename_i hb
        obtain rfl := Option.some.inj e
        exact ⟨zv, n, h1, h2, hl, Nat.eq_of_beq_eq_true hb⟩
      · simp at e
    · simp at e
  · simp at e

theorem run_zeroCells {t : TypeId} {z : List AV} (e : zeroCellsA P t = some z) (w : World) (ρ : Rho) : ∃ zv, (zeroValue t).run P w = .ok zv w ∧ VRL ρ z zv.cells.toList ∧ sizeA P t = some z.length ∧ zv.cells.size = z.length := by
  obtain ⟨za, n, h1, h2, h3, h4⟩ := zeroCellsA_spec e
  obtain ⟨zv, k1, k2⟩ := run_zeroValue' h1 w ρ
  have := k2.cells h3
  exact ⟨zv, k1, this, by rw [h2, h4], by rw [VRL.length this]; simp⟩

theorem run_zeroAll {t : TypeId} {z : AV} (h : zeroA P t = some z) (ρ : Rho) : ∃ v, (∀ w, (zeroValue t).run P w = .ok v w) ∧ VR ρ z v := by
  unfold zeroA at h
  cases hi : P.info? t with
  | none => simp [hi] at h
  | some i =>
    simp only [hi] at h
    cases hz : i.zero with
    | none => simp [hz] at h
    | some v =>
      simp only [hz] at h
      exact ⟨v, fun w => by simp [zeroValue, run_typeInfo' hi, hz], ofConst_rel h⟩

theorem run_zeroCellsAll {t : TypeId} {z : List AV} (e : zeroCellsA P t = some z) (ρ : Rho) : ∃ zv, (∀ w, (zeroValue t).run P w = .ok zv w) ∧ VRL ρ z zv.cells.toList ∧ sizeA P t = some z.length ∧ zv.cells.size = z.length := by
  obtain ⟨za, n, h1, h2, h3, h4⟩ := zeroCellsA_spec e
  obtain ⟨zv, k1, k2⟩ := run_zeroAll h1 ρ
  have := k2.cells h3
  exact ⟨zv, k1, this, by rw [h2, h4], by rw [VRL.length this]; simp⟩

theorem buildSliceA_ok (S : Sim B w0 ρ h w) {fresh : Nat} (hf : ρ fresh = none) (hl : fresh < h.next) {t : TypeId} {n : Nat} {ps : List (Nat × AV)} {ps' : Array (Nat × Value)} {v : AV} {h' : Heap}
    (e : buildSliceA P h fresh t n ps = some (v, h')) (hp : PR ρ ps ps'.toList) : Does P B w0 ρ h w fresh (Instr.buildSlice t n ps') v h' := by
  unfold buildSliceA at e
  split at e
  · rename_i el hu
    split at e
    · rename_i z hz
      obtain ⟨zv, h1, h2, h3, h4⟩ := run_zeroCells hz w ρ
      rw [cond_eq_ite] at e
      split at e
      · rename_i hc
        simp only [Bool.and_eq_true] at hc
        have hle := Nat.le_of_ble_eq_true hc.1
        have hpos : 0 < z.length := Nat.le_of_ble_eq_true hc.2
        split at e
        · rename_i cs hcs
          obtain ⟨rfl, rfl⟩ := Prod.mk.inj (Option.some.inj e)
          obtain ⟨r', k1, k2⟩ := fillA_ok (cells' := (Array.range (n * z.length)).map (zv.cells[· % zv.cells.size]!)) (place' := fun i => some (i * z.length, z.length)) (fun i x hx => hx) hp (times_rel h2 hpos) hcs
          refine ⟨_, _, .slice (some ⟨w.heap.size, 0, none⟩) n n, ?_, .slice fresh 0 n n true z.length ⟨w.heap.size, 0, r'.size⟩ n _ (by simp [Rho.put]) (Nat.le_refl _) (fun _ => rfl) (Nat.le_refl _) (.inr ⟨rfl, ?_⟩), S.newRow hf hl el k2, Rho.ext_put _ hf, put_other _, rfl⟩
          · simp only [Instr.buildSlice, Sem.run_bind, run_underlying hu, Result.andThen_ok, run_sizeOf' h3]
            rw [if_neg (by omega)]
            by_cases hz0 : n * z.length = 0
            · have hn0 : n = 0 := by
                rcases Nat.mul_eq_zero.1 hz0 with h | h <;> omega
              subst hn0
              rw [Nat.zero_mul] at k1
              simp only [Nat.zero_mul, if_true, Sem.run_bind, Sem.run_pure, Result.andThen_ok] at k1 ⊢
              have : Array.map (fun x => (#[] : Array Value)[x % (#[] : Array Value).size]!) (Array.range 0) = Array.map (fun x => zv.cells[x % zv.cells.size]!) (Array.range 0) := by
                rw [Array.range_zero']; simp
              rw [this, k1]
              simp [newRow]
            · rw [if_neg hz0]
              simp only [Sem.run_bind, h1, Result.andThen_ok, Sem.run_pure, k1]
              simp [newRow]
          · have hlen := VRL.length k2
            have : cs.length = n * z.length := by
              have key : ∀ (ps : List (Nat × AV)) (c r : List AV) (pl : Nat → Option (Nat × Nat)), fillA pl c ps = some r → r.length = c.length := by
                intro ps
                induction ps with
                | nil => intro c r pl e; simp only [fillA] at e; rw [Option.some.inj e]
                | cons x ps ih =>
                  intro c r pl e
                  obtain ⟨i, v⟩ := x
                  simp only [fillA] at e
                  split at e
                  · simp at e
                  · split at e
                    · simp at e
                    · rw [cond_eq_ite] at e
                      split at e
                      · rw [ih _ _ _ e, length_lay]
                      · simp at e
              rw [key _ _ _ _ hcs, length_times]
            simp only [Array.length_toList] at hlen
            simp only; omega
        · simp at e
      · simp at e
    · simp at e
  · simp at e

theorem wrap64_id (x : Int) (h0 : -9223372036854775808 ≤ x) (h1 : x ≤ 9223372036854775807) : IntKind.i64.wrap x = x := by
  unfold IntKind.wrap
  simp only [IntKind.bits, IntKind.signed, Bool.true_and]
  by_cases hc : x % 2 ^ 64 ≥ 2 ^ (64 - 1)
  · rw [if_pos (by simpa using hc)]
    simp only [Nat.reduceSub] at hc
    omega
  · rw [if_neg (by simpa using hc)]
    simp only [Nat.reduceSub] at hc
    omega

theorem makeSliceA_ok (S : Sim B w0 ρ h w) {fresh : Nat} (hf : ρ fresh = none) (hl : fresh < h.next) {t : TypeId} {l c v : AV} {l' c' : Value} {h' : Heap}
    (e : makeSliceA P h fresh t l c = some (v, h')) (hL : VR ρ l l') (hC : VR ρ c c') : Does P B w0 ρ h w fresh (Instr.makeSlice t l' c') v h' := by
  unfold makeSliceA at e
  split at e
  · rename_i el k1 l k2 c hu
    cases hL; cases hC
    split at e
    · rename_i z i hz hi
      obtain ⟨zv, h1, h2, h3, h4⟩ := run_zeroCells hz w ρ
      split at e
      · rename_i hb
        obtain ⟨b1, b2, b3, b4⟩ := hb
        rw [cond_eq_ite] at e
        split at e
        · rename_i hpos
          have hpos : 0 < z.length := Nat.le_of_ble_eq_true hpos
          obtain ⟨rfl, rfl⟩ := Prod.mk.inj (Option.some.inj e)
          have hr := times_rel (n := c.toNat) h2 hpos
          refine ⟨ρ.put fresh ⟨w.heap.size, 0, c.toNat * z.length⟩, w.alloc (.cells ((Array.range (c.toNat * z.length)).map (zv.cells[· % zv.cells.size]!)) el), .slice (some ⟨w.heap.size, 0, none⟩) l.toNat c.toNat, ?_, .slice fresh 0 l.toNat c.toNat true z.length ⟨w.heap.size, 0, c.toNat * z.length⟩ c.toNat _ (by simp [Rho.put]) (Nat.le_refl _) (fun _ => rfl) (by omega) (.inr ⟨rfl, by simp⟩), ?_, Rho.ext_put _ hf, put_other _, rfl⟩
          · have hwl : IntKind.i64.wrap l = l := wrap64_id l (by omega) (by omega)
            have hwc : IntKind.i64.wrap c = c := wrap64_id c (by omega) (by omega)
            have hbc : (i.bytes : Int) * c ≤ 140737488355328 := by rw [Int.mul_comm]; exact b3
            have ht : (decide (c < 0) || decide ((i.bytes : Int) * c > 2 ^ 48)) = false := by
              simp only [Bool.or_eq_false_iff, decide_eq_false_iff_not]
              exact ⟨by omega, by omega⟩
            simp only [Instr.makeSlice, Sem.run_bind, run_underlying hu, Result.andThen_ok, asInt, asIntOf, Sem.run_pure, run_typeInfo' hi, hwl, hwc]
            rw [if_neg (by
              rw [ht]
              simp only [Bool.false_or, Bool.or_eq_true, decide_eq_true_eq]
              omega)]
            simp only [Sem.run_bind, Sem.run_pure, Result.andThen_ok, run_askRoom, run_sizeOf' h3]
            by_cases hz0 : c.toNat * z.length = 0
            · rw [if_pos hz0]
              simp only [hz0, Sem.run_pure, Result.andThen_ok]
              rw [Array.range_zero']
              simp [newRow]
            · rw [if_neg hz0]
              simp only [Sem.run_bind, h1, Result.andThen_ok, Sem.run_pure]
              simp [newRow]
          · have := S.newRow hf hl el hr
            simpa using this
        · simp at e
      · simp at e
    · simp at e
  · simp at e

end Go.Proofs.YtahdafekballcaaGreat.AM
