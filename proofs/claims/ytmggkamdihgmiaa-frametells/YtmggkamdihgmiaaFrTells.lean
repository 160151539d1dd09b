/-
  FrameTells: the frame of any weights, and whose any tick of any frame is, are as the document defines: the statement holds for every input. Conditions: those that the given row names, and no others.
-/
import Derived.Test.YtmggkamdihgmiaaRows
import Derived.WalkKit
import Derived.ProofKit
import Derived.OpenShut
import Derived.SizedLaws
import Derived.Carry
import Derived.Test.YtmggkamdihgmiaaFr8
import Derived.Test.YtmggkamdihgmiaaFr11
import Derived.Test.YtmggkamdihgmiaaFr12
namespace Go.Proofs.Ytmggkamdihgmiaa.AM
open Go Go.Proofs Go.RowKit
set_option linter.unusedVariables false

/-- A list stays as it is where another one is handed in. -/
theorem Holds.other {h h' : Heap} {a : AV} {l : List Int} (hh : Holds h a l) {c : Nat} (hn : h.get c = none) (hx : h'.next = h.next) (hc : ∀ b, b ≠ c → h'.get b = h.get b) : Holds h' a l := by
  rcases hh with ⟨rfl, rfl⟩ | ⟨b, o, cap, ex, rfl, h1, h2, h3⟩
  · exact .inl ⟨rfl, rfl⟩
  · refine .inr ⟨b, o, cap, ex, rfl, ?_, by rw [hx]; exact h2, h3⟩
    by_cases e : b = c
    · subst e
      have h0 : rdA h b = [] := by unfold rdA; rw [hn]
      rw [h0] at h1
      unfold cut at h1 ⊢
      cases hb : Nat.ble (o + l.length) ([] : List AV).length with
      | false => rw [hb] at h1; simp at h1
      | true =>
        rw [Nat.ble_eq] at hb
        have hl : l.length = 0 := by simp only [List.length_nil] at hb; omega
        have ho : o = 0 := by simp only [List.length_nil] at hb; omega
        have hl' : l = [] := List.length_eq_zero_iff.mp hl
        subst hl' ho
        have : Nat.ble (0 + ([] : List Int).length) (rdA h' b).length = true := by rw [Nat.ble_eq]; simp
        rw [this]
        rfl
    · have : rdA h' b = rdA h b := by unfold rdA; rw [hc b e]
      rw [this]; exact h1

theorem cells23 : Try.prog.cellsOf 23 = 2 := by kernel_rfl
theorem cells3 : Try.prog.cellsOf 3 = 1 := by kernel_rfl

theorem list2 {α : Type} (l : List α) (h : (⟨l⟩ : Array α).size = 2) : ∃ a b, l = [a, b] := by
  match l, h with
  | [a, b], _ => exact ⟨a, b, rfl⟩

theorem open_two {H : Type} {enc : TypeId × Value → H} {W : World} {r : Reach} {b0 base : Nat} {sp : Nat → Bool} {hd : Bool} {v : Value} {d : DataW H} {p : List MemPlace} (hv : Value.okWide Try.prog W r b0 23 v)
    (h : DataW.Trod enc Try.prog W base sp hd 23 v d p) : ∃ x y, v = .agg #[.int .i64 x, .int .i64 y] := by
  obtain ⟨cs, rfl, hsz, _⟩ : ∃ cs, v = .agg cs ∧ cs.size = Try.prog.cellsOf 23 ∧ Row.okWide Try.prog W r b0 23 cs := by
    simpa [Value.okWide, Try.underlying23] using hv
  rw [cells23] at hsz
  obtain ⟨l⟩ := cs
  obtain ⟨c0, c1, rfl⟩ := list2 l hsz
  obtain ⟨fuel, hf⟩ := h
  obtain ⟨xs, m, _, _, _, hx, hi⟩ := DataW.trod_array Try.underlying23 hf
  have h0 := hi 0 (by omega)
  have h1 := hi 1 (by omega)
  rw [cells3] at h0 h1
  simp only [Value.cells, Nat.zero_mul, List.drop_zero, Nat.one_mul, List.take_succ_cons, List.take_zero, List.drop_succ_cons] at h0 h1
  rw [List.getElem?_eq_getElem (by omega)] at h0 h1
  obtain ⟨x0, e0, _, _⟩ := DataW.trod_int Try.underlying3 h0
  obtain ⟨x1, e1, _, _⟩ := DataW.trod_int Try.underlying3 h1
  simp at e0 e1
  subst e0 e1
  exact ⟨x0, x1, rfl⟩

end Go.Proofs.Ytmggkamdihgmiaa.AM
namespace Go.Proofs.Ytmggkamdihgmiaa.frameTells
open Go.ChangeShapes Go.WideShapes Go.ChangeAt Go.RowKit AM
set_option linter.unusedVariables false

theorem laidOut : laidOutB Try.prog = true := by kernel_rfl

theorem walk (v0 v1 : Value) (l0 l1 : Nat) (z0 z1 : List Int) (x y : Int) (w : World) (h0 : IsRow w v0 l0 z0) (h1 : IsRow w v1 l1 z1) (hr : ∀ n, n ∈ z0.take l0 → -9223372036854775808 ≤ n ∧ n < 9223372036854775808) :
    Calls Try.prog 3 #[v0, v1, .agg #[.int .i64 x, .int .i64 y]] w fun e w' => e = .returned (.bool true) ∧ Below w.heap.size w w' := by
  obtain ⟨ρ1, g1, a, S1, ro1, ext1, n1, k1, hv1, ha⟩ := (Sim.start w 2).row (RoOnly.empty 2) (b := 0) rfl rfl (by show 0 < 2; omega) h0
  have q1 := k1 1 (by omega)
  obtain ⟨ρ2, g2, b, S2, ro2, ext2, n2, k2, hv2, hb⟩ := S1.row ro1 (b := 1) (by rw [q1.1]) (by rw [q1.2]; rfl) (by rw [n1]; show 1 < 2; omega) h1
  have ha2 := ha.other (c := 1) (by rw [q1.2]; rfl) n2 (fun b hb => (k2 b hb).2)
  obtain ⟨h', r⟩ := tells_runs (x := x) (y := y) ha2 hb hr
  exact runs_calls r S2 (.cons _ _ _ _ (hv1.mono ext2) (.cons _ _ _ _ hv2 (.cons _ _ _ _ (.agg _ _ (.cons _ _ _ _ (.int _ _) (.cons _ _ _ _ (.int _ _) .nil))) .nil)))

set_option maxRecDepth 100000 in
theorem lifted (os : Os) (started : os.Started) (H : Type) (enc : TypeId × Value → H) :
    ReturnsInHanded {} Try.checked os 3 .any (Rows.frameTellsSpec.pre6 enc Try.prog Try.f3 Rows.frameTellsRow.domain false) (Rows.frameTellsSpec.post enc Try.prog Try.f3 false true false false) := by
  refine returnsInHanded_of_change_sized (C := Try.checked) own started (by kernel_rfl) Try.func3
    (ChangeSpec.witness6 (enc := enc) (C := Try.checked) false ⟨#[], #[.slice none 0 0, .slice none 0 0, .agg #[.int .i64 0, .int .i64 0]], []⟩ 8 (by kernel_rfl) (by kernel_rfl) (by kernel_rfl) (by kernel_rfl)) ?_
  intro W base args ds gs before hval0 hW hcnd hsz0 _
  have hsz : (DataW.weightsEach Try.prog (Try.f3.params.toList ++ Rows.frameTellsSpec.plain.varTypes Try.prog) (ds ++ gs)).all (· ≤ reachBytes) = true := hsz0
  have hval : ∀ (j : Nat) t v, Try.f3.params[j]? = some t → args[j]? = some v → Value.okWide Try.prog W .any base t v := hval0
  have hW' := hW
  obtain ⟨p, q, hA0, hV, rfl, hfz, hnd⟩ := hW
  have hA : DataW.TrodAll enc Try.prog W 0 (fun _ => true) true Try.f3.params.toList args.toList ds p := hA0
  rw [Try.params3] at hA hval hsz
  obtain ⟨v0, vs0, d0, ds0, p0, q0, hargs, rfl, rfl, h0, r0⟩ := trodAll_cons hA
  obtain ⟨v1, vs1, d1, ds1, p1, q1, rfl, rfl, rfl, h1, r1⟩ := trodAll_cons r0
  obtain ⟨v2, vs2, d2, ds2, p2, q2, rfl, rfl, rfl, h2, r2⟩ := trodAll_cons r1
  obtain ⟨rfl, rfl, rfl⟩ := trodAll_nil r2
  obtain rfl : args = #[v0, v1, v2] := by cases args; simp_all
  obtain ⟨rfl, rfl⟩ := trodVars_none hV
  have lt0 : ∀ x ∈ p0, x.block < W.heap.size := by obtain ⟨m, hm⟩ := h0; exact DataW.trod_lt m _ _ _ hm
  have lt1 : ∀ x ∈ p1, x.block < W.heap.size := by obtain ⟨m, hm⟩ := h1; exact DataW.trod_lt m _ _ _ hm
  have lt2 : ∀ x ∈ p2, x.block < W.heap.size := by obtain ⟨m, hm⟩ := h2; exact DataW.trod_lt m _ _ _ hm
  obtain ⟨len, zs, hr, hr2⟩ := open_row (j := 0) h0 hsz rfl rfl (okWide_slice Try.underlying22 (hval 0 22 v0 rfl rfl))
  obtain ⟨len1, zs1, hr1, _⟩ := open_row (j := 1) h1 hsz rfl rfl (okWide_slice Try.underlying22 (hval 1 22 v1 rfl rfl))
  obtain ⟨x, y, rfl⟩ := open_two (hval 2 23 v2 rfl rfl) h2
  clear hA0 hval0 hsz0 hsz
  refine (walk v0 v1 len len1 zs zs1 x y W hr hr1 hr2).mono fun e W' ⟨he, bel⟩ => ?_
  subst he
  exact ⟨_, rfl, _, _, _, [], _, [], hW', trodAll_mk1 (shut_bool Try.underlying4 _), (trodAll_cons_mk (Below.trod laidOut (by kernel_rfl) (of_decide_eq_true (by kernel_rfl)) h0 bel lt0) (trodAll_cons_mk (Below.trod laidOut (by kernel_rfl) (of_decide_eq_true (by kernel_rfl)) h1 bel lt1) (trodAll_cons_mk (Below.trod laidOut (by kernel_rfl) (of_decide_eq_true (by kernel_rfl)) h2 bel lt2) trodAll_mk0))), rfl, bel.frame _, fun h => by cases h⟩

theorem over : Rows.frameTellsRow.holds Try.pinned (OpenSpec.ofChange Rows.frameTellsSpec) :=
  OpenClaim.holds_of_wide 3 Try.f3 rfl rfl rfl rfl rfl rfl rfl ⟨rfl, rfl, rfl, rfl, rfl⟩ rfl rfl rfl rfl rfl (by kernel_rfl) Try.func3 (by kernel_rfl)
    (of_decide_eq_true (by kernel_rfl)) (by unfold Func.isWrapper; first | (rw [if_pos (by decide +kernel)]; kernel_rfl) | (rw [if_neg (by decide +kernel)]; exact ⟨rfl, rfl⟩))
    (fun os started H enc _ => lifted os started H enc)

end Go.Proofs.Ytmggkamdihgmiaa.frameTells
namespace Go.Proofs.Ytmggkamdihgmiaa
/-- The statement. -/
theorem frameTells_holds : Rows.FrameTellsSaid := frameTells.over
end Go.Proofs.Ytmggkamdihgmiaa
