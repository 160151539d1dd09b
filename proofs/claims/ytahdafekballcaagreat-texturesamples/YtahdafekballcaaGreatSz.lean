/-
  TextureSamples: for any texture and place the colour is as the document defines, from 0 to 1: the statement holds for every input. Conditions: those that the given row names, and no others.
-/
import Derived.Test.YtahdafekballcaaGreatSy4
import Derived.Test.YtahdafekballcaaGreatTwS
import Derived.Test.YtahdafekballcaaGreatRows
import Derived.ChangeSlices
import Derived.Deep.Strs
namespace Go.Proofs.YtahdafekballcaaGreat.textureSamples
open Go.ChangeShapes Go.WideShapes Go.ChangeAt Go.RowKit AM
set_option linter.unusedVariables false

theorem wf_i {n : Int} (h : (Lit.int .i64 n).wf = true) : -9223372036854775808 ≤ n ∧ n < 9223372036854775808 := by
  have h : (decide (IntKind.i64.min ≤ n) && decide (n ≤ IntKind.i64.max)) = true := h
  rw [Bool.and_eq_true, decide_eq_true_eq, decide_eq_true_eq] at h
  have e1 : IntKind.i64.min = -9223372036854775808 := rfl
  have e2 : IntKind.i64.max = 9223372036854775807 := rfl
  omega
theorem wf_b {n : Int} (h : (Lit.int .u8 n).wf = true) : 0 ≤ n ∧ n < 256 := by
  have h : (decide (IntKind.u8.min ≤ n) && decide (n ≤ IntKind.u8.max)) = true := h
  rw [Bool.and_eq_true, decide_eq_true_eq, decide_eq_true_eq] at h
  have e1 : IntKind.u8.min = 0 := rfl
  have e2 : IntKind.u8.max = 255 := rfl
  omega

theorem walk_nil (w : World) (wd hg u v : Int) (hu : -9223372036854775808 ≤ u ∧ u < 9223372036854775808) (hv : -9223372036854775808 ≤ v ∧ v < 9223372036854775808) :
    Calls Tryz.prog 3 #[.agg #[.int .i64 wd, .int .i64 hg, .slice none 0 0], .int .i64 u, .int .i64 v] w fun e w' => e = .returned (.bool true) ∧ Below w.heap.size w w' := by
  obtain ⟨h', r⟩ := law_runs (h := ⟨1000, .nil⟩) (p := .nils) (l := []) (wd := wd) (hg := hg) (.inl ⟨rfl, rfl⟩) (fun x hx => by cases hx) hu hv
  exact r.calls mixed names XT_ok XT_hu (Sim.start w 1000) (.cons _ _ _ _ (.agg _ _ (.cons _ _ _ _ (.int _ _) (.cons _ _ _ _ (.int _ _) (.cons _ _ _ _ .nils .nil)))) (.cons _ _ _ _ (.int _ _) (.cons _ _ _ _ (.int _ _) .nil))) ⟨_, _, Tryz.func3, rfl⟩

theorem walk_some (w : World) (a : Addr) (len cap : Nat) (zs : List Int) (hz : zs.length = cap) (hlen : len ≤ cap) (hc : ∀ i, i < zs.length → w.cell? (a.add i) = some (.int .u8 (zs.getD i 0))) (hwz : ∀ n ∈ zs, (Lit.int .u8 n).wf = true)
    (wd hg u v : Int) (hu : -9223372036854775808 ≤ u ∧ u < 9223372036854775808) (hv : -9223372036854775808 ≤ v ∧ v < 9223372036854775808) :
    Calls Tryz.prog 3 #[.agg #[.int .i64 wd, .int .i64 hg, .slice (some a) len cap], .int .i64 u, .int .i64 v] w fun e w' => e = .returned (.bool true) ∧ Below w.heap.size w w' := by
  obtain ⟨ρ', h1, k1, _, _, k4, _, k6, k7⟩ := (Sim.start w 1000).ints (RoOnly.empty 1000) (b := 7) rfl rfl (by show 7 < 1000; omega) hz hlen hc
  have hl : (zs.take len).length = len := by rw [List.length_take]; omega
  have hp : PixIs h1 (.slice 7 0 len cap true 1) (zs.take len) := by
    refine .inr ⟨7, cap, by rw [hl], by rw [hl]; exact k7, ?_, by rw [hl]; exact hlen⟩
    rw [k4]
    show 7 < 1000
    omega
  obtain ⟨h', r⟩ := law_runs (h := h1) (wd := wd) (hg := hg) hp (fun x hx => wf_b (hwz x (List.mem_of_mem_take hx))) hu hv
  exact r.calls mixed names XT_ok XT_hu k1 (.cons _ _ _ _ (.agg _ _ (.cons _ _ _ _ (.int _ _) (.cons _ _ _ _ (.int _ _) (.cons _ _ _ _ k6 .nil)))) (.cons _ _ _ _ (.int _ _) (.cons _ _ _ _ (.int _ _) .nil))) ⟨_, _, Tryz.func3, rfl⟩

theorem cells24 : Tryz.prog.cellsOf 24 = 3 := by kernel_rfl
theorem cells3 : Tryz.prog.cellsOf 3 = 1 := by kernel_rfl
theorem cells22 : Tryz.prog.cellsOf 22 = 1 := by kernel_rfl
theorem cells5 : Tryz.prog.cellsOf 5 = 1 := by kernel_rfl

theorem open24 {H : Type} {enc : TypeId × Value → H} {W : World} {v0 : Value} {d0 : DataW H} {p0 : List MemPlace} {cs : Array Value} (hcs : v0 = .agg cs) (hsz : cs.size = 3) (h0 : DataW.Trod enc Tryz.prog W 0 (fun _ => true) true 24 v0 d0 p0) :
    ∃ wd hg pv, v0 = .agg #[.int .i64 wd, .int .i64 hg, pv] ∧ (pv = .slice none 0 0 ∨ ∃ (x : Addr) (l c : Nat) (zs : List Int), pv = .slice (some x) l c ∧ l ≤ c ∧ zs.length = c ∧ (∀ i, i < zs.length → W.cell? (x.add i) = some (.int .u8 (zs.getD i 0))) ∧ (∀ n ∈ zs, (Lit.int .u8 n).wf = true)) := by
  obtain ⟨c0, c1, c2, rfl⟩ : ∃ c0 c1 c2, cs = #[c0, c1, c2] := by
    obtain ⟨l⟩ := cs
    match l, hsz with
    | [c0, c1, c2], _ => exact ⟨c0, c1, c2, rfl⟩
  subst hcs
  obtain ⟨fuel, hf⟩ := h0
  obtain ⟨y0, y1, y2, n, _, _, f0, f1, f2⟩ := Go.Deep.trod_struct3 Tryz.underlying24 hf
  have f0 : DataW.trod enc Tryz.prog W 0 (fun _ => true) true n 3 ((([c0, c1, c2] : List Value).drop 0).take (Tryz.prog.cellsOf 3)) = some y0 := f0
  have f1 : DataW.trod enc Tryz.prog W 0 (fun _ => true) true n 3 ((([c0, c1, c2] : List Value).drop 1).take (Tryz.prog.cellsOf 3)) = some y1 := f1
  have f2 : DataW.trod enc Tryz.prog W 0 (fun _ => true) true n 22 ((([c0, c1, c2] : List Value).drop 2).take (Tryz.prog.cellsOf 22)) = some y2 := f2
  rw [cells3] at f0 f1
  rw [cells22] at f2
  obtain ⟨wd, g0, _, _⟩ := DataW.trod_int Tryz.underlying3 f0
  obtain ⟨hg, g1, _, _⟩ := DataW.trod_int Tryz.underlying3 f1
  have k0 : c0 = .int .i64 wd := by
    have : [c0] = [Value.int .i64 wd] := g0
    injection this
  have k1 : c1 = .int .i64 hg := by
    have : [c1] = [Value.int .i64 hg] := g1
    injection this
  subst k0 k1
  refine ⟨wd, hg, c2, rfl, ?_⟩
  rcases open_ints Tryz.underlying22 Tryz.underlying5 cells5 f2 with ⟨hcs, _⟩ | ⟨x, l, c, zs, hcs, _, hl, hm, hz, hx, hcell, hwz⟩
  · have : [c2] = [Value.slice none 0 0] := hcs
    injection this with this
    exact .inl this
  · have : [c2] = [Value.slice (some x) l c] := hcs
    injection this with this
    have hz : zs.length = c := by simpa using hz
    exact .inr ⟨x, l, c, zs, this, hl, hz, hcell, hwz⟩

set_option maxRecDepth 100000 in
theorem lifted (os : Os) (started : os.Started) (H : Type) (enc : TypeId × Value → H) :
    ReturnsInHanded {} Tryz.checked os 3 .any (Rows.textureSamplesSpec.pre6 enc Tryz.prog Tryz.f3 Rows.textureSamplesRow.domain false) (Rows.textureSamplesSpec.post enc Tryz.prog Tryz.f3 false true false false) := by
  refine returnsInHanded_of_change (C := Tryz.checked) own started (by kernel_rfl) Tryz.func3
    (ChangeSpec.witness6 (enc := enc) (C := Tryz.checked) false ⟨#[], #[.agg #[.int .i64 0, .int .i64 0, .slice none 0 0], .int .i64 0, .int .i64 0], []⟩ 8 (by kernel_rfl) (by kernel_rfl) (by kernel_rfl) (by kernel_rfl)) ?_
  intro W base args ds gs before hval0 hW hcnd _
  have hval : ∀ (j : Nat) t v, Tryz.f3.params[j]? = some t → args[j]? = some v → Value.okWide Tryz.prog W .any base t v := hval0
  have hW' := hW
  obtain ⟨p, q, hA0, hV, rfl, hfz, hnd⟩ := hW
  have hA : DataW.TrodAll enc Tryz.prog W 0 (fun _ => true) true Tryz.f3.params.toList args.toList ds p := hA0
  rw [Tryz.params3] at hA hval
  obtain ⟨v0, vs0, d0, ds0, p0, q0, hargs, rfl, rfl, h0, r0⟩ := trodAll_cons hA
  obtain ⟨v1, vs1, d1, ds1, p1, q1, rfl, rfl, rfl, h1, r1⟩ := trodAll_cons r0
  obtain ⟨v2, vs2, d2, ds2, p2, q2, rfl, rfl, rfl, h2, r2⟩ := trodAll_cons r1
  obtain ⟨rfl, rfl, rfl⟩ := trodAll_nil r2
  obtain rfl : args = #[v0, v1, v2] := by cases args; simp_all
  obtain ⟨rfl, rfl⟩ := trodVars_none hV
  have lt0 : ∀ x ∈ p0, x.block < W.heap.size := by obtain ⟨m, hm⟩ := h0; exact DataW.trod_lt m _ _ _ hm
  have lt1 : ∀ x ∈ p1, x.block < W.heap.size := by obtain ⟨m, hm⟩ := h1; exact DataW.trod_lt m _ _ _ hm
  have lt2 : ∀ x ∈ p2, x.block < W.heap.size := by obtain ⟨m, hm⟩ := h2; exact DataW.trod_lt m _ _ _ hm
  obtain ⟨u, hu0, _, _, hu⟩ := open_int Tryz.underlying2 (hval 1 2 v1 rfl rfl) h1
  obtain ⟨v, hv0, _, _, hv⟩ := open_int Tryz.underlying2 (hval 2 2 v2 rfl rfl) h2
  obtain ⟨cs, hcs, hsz⟩ := okWide_struct Tryz.underlying24 (hval 0 24 v0 rfl rfl)
  rw [cells24] at hsz
  have main : Calls Tryz.prog 3 #[v0, v1, v2] W fun e w' => e = .returned (.bool true) ∧ Below W.heap.size W w' := by
    obtain ⟨wd, hg, pv, rfl, hpv⟩ := open24 hcs hsz h0
    subst hu0 hv0
    rcases hpv with rfl | ⟨x, l, c, zs, rfl, hl, hz, hcell, hwz⟩
    · exact walk_nil W wd hg u v (wf_i hu) (wf_i hv)
    · exact walk_some W x l c zs hz hl hcell hwz wd hg u v (wf_i hu) (wf_i hv)
  clear hA0 hval0
  refine main.mono fun e W' ⟨he, bel⟩ => ?_
  subst he
  exact ⟨_, rfl, _, _, _, [], _, [], hW', trodAll_mk1 (shut_bool Tryz.underlying4 _), (trodAll_cons_mk (Below.trod laidOut (by kernel_rfl) (of_decide_eq_true (by kernel_rfl)) h0 bel lt0) (trodAll_cons_mk (Below.trod laidOut (by kernel_rfl) (of_decide_eq_true (by kernel_rfl)) h1 bel lt1) (trodAll_cons_mk (Below.trod laidOut (by kernel_rfl) (of_decide_eq_true (by kernel_rfl)) h2 bel lt2) trodAll_mk0))), rfl, bel.frame _, fun h => by cases h⟩

theorem over : Rows.textureSamplesRow.holds Tryz.pinned (OpenSpec.ofChange Rows.textureSamplesSpec) :=
  OpenClaim.holds_of_wide 3 Tryz.f3 rfl rfl rfl rfl rfl rfl rfl ⟨rfl, rfl, rfl, rfl, rfl⟩ rfl rfl rfl rfl rfl (by kernel_rfl) Tryz.func3 (by kernel_rfl)
    (of_decide_eq_true (by kernel_rfl)) (by unfold Func.isWrapper; first | (rw [if_pos (by decide +kernel)]; kernel_rfl) | (rw [if_neg (by decide +kernel)]; exact ⟨rfl, rfl⟩))
    (fun os started H enc _ => lifted os started H enc)

end Go.Proofs.YtahdafekballcaaGreat.textureSamples
namespace Go.Proofs.YtahdafekballcaaGreat
/-- The statement. -/
theorem textureSamples_holds : Rows.TextureSamplesSaid := textureSamples.over
end Go.Proofs.YtahdafekballcaaGreat
