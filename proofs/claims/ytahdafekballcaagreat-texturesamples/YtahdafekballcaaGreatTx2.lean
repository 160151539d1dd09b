/-
  The colours of a texture, part 2: a sample. Conditions: none.
-/
import Derived.Test.YtahdafekballcaaGreatTx1
import Derived.Test.YtahdafekballcaaGreatAm23
namespace Go.Proofs.YtahdafekballcaaGreat.AM
open Go Go.Proofs
set_option linter.unusedVariables false
set_option linter.unusedSimpArgs false

def PixIs (h : Heap) (p : AV) (l : List Int) : Prop := (p = .nils ∧ l = []) ∨ ∃ b cap, p = .slice b 0 l.length cap true 1 ∧ cut (rdA h b) 0 l.length = some (intsK .u8 l) ∧ b < h.next ∧ l.length ≤ cap

theorem PixIs.ext {h h' : Heap} {p : AV} {l : List Int} (k : Kp h h') (x : PixIs h p l) : PixIs h' p l := by
  rcases x with ⟨rfl, rfl⟩ | ⟨b, cap, rfl, h1, h2, h3⟩
  · exact .inl ⟨rfl, rfl⟩
  · exact .inr ⟨b, cap, rfl, by rw [k.rd h2]; exact h1, Nat.lt_of_lt_of_le h2 k.1, h3⟩

theorem und22 : Tryz.prog.underlying 22 = some (.slice 5) := by kernel_rfl
theorem sizeA5 : sizeA Tryz.prog 5 = some 1 := by kernel_rfl
theorem aggA5 : aggA Tryz.prog 5 = some false := by kernel_rfl
theorem aggA3 : aggA Tryz.prog 3 = some false := by kernel_rfl
theorem aggA22 : aggA Tryz.prog 22 = some false := by kernel_rfl
theorem aggA27 : aggA Tryz.prog 26 = some true := by kernel_rfl
theorem sizeA27 : sizeA Tryz.prog 26 = some 3 := by kernel_rfl
theorem zero27 : zeroA Tryz.prog 26 = some (.agg [vi 0, vi 0, vi 0]) := by kernel_rfl

theorem PixIs.len {h : Heap} {p : AV} {l : List Int} (x : PixIs h p l) (h' : Heap) : lenA Tryz.prog h' 22 p = some (vi l.length) := by
  rcases x with ⟨rfl, rfl⟩ | ⟨b, cap, rfl, h1, h2, h3⟩ <;> simp only [lenA, und22] <;> rfl

/-- Is it a texture? -/
def Right (wd hg : Int) (l : List Int) : Prop := 1 ≤ wd ∧ wd ≤ 1024 ∧ 1 ≤ hg ∧ hg ≤ 1024 ∧ (l.length : Int) = 4 * wd * hg
instance (wd hg : Int) (l : List Int) : Decidable (Right wd hg l) := by unfold Right; exact inferInstance

def atI (wd hg u v : Int) : Int := 4 * (plcI v hg * wd + plcI u wd)

theorem plcI_lt {a n : Int} (h1 : 1 ≤ n) : 0 ≤ plcI a n ∧ plcI a n ≤ n - 1 := by
  unfold plcI
  have h2 : 0 ≤ a % 4294967296 := by omega
  have h3 : a % 4294967296 ≤ 4294967295 := by omega
  have h4 : 0 ≤ a % 4294967296 * n := Int.mul_nonneg h2 (by omega)
  have h5 : a % 4294967296 * n ≤ 4294967295 * n := Int.mul_le_mul_of_nonneg_right h3 (by omega)
  constructor
  · omega
  · omega

theorem atI_lt {wd hg : Int} {l : List Int} (r : Right wd hg l) (u v : Int) : 0 ≤ atI wd hg u v ∧ atI wd hg u v + 4 ≤ l.length := by
  obtain ⟨h1, h2, h3, h4, h5⟩ := r
  have a1 := plcI_lt (a := v) h3
  have a2 := plcI_lt (a := u) h1
  have b1 : 0 ≤ plcI v hg * wd := Int.mul_nonneg a1.1 (by omega)
  have b2 : plcI v hg * wd ≤ (hg - 1) * wd := Int.mul_le_mul_of_nonneg_right a1.2 (by omega)
  have b3 : (hg - 1) * wd = wd * hg - wd := by rw [Int.sub_mul, Int.one_mul, Int.mul_comm]
  have b4 : 4 * wd * hg = 4 * (wd * hg) := Int.mul_assoc _ _ _
  unfold atI
  omega

/-- The i-th byte of the pixel there; nought, where there is no texture. -/
def smpB (l : List Int) (wd hg u v : Int) (i : Nat) : Nat := if Right wd hg l then (l.getD ((atI wd hg u v).toNat + i) 0).toNat else 0

def colr (l : List Int) (wd hg u v : Int) : AV := .agg [vi (share (smpB l wd hg u v 0)), vi (share (smpB l wd hg u v 1)), vi (share (smpB l wd hg u v 2))]

theorem smpB_lt {l : List Int} (hb : ∀ x, x ∈ l → 0 ≤ x ∧ x < 256) (wd hg u v : Int) (i : Nat) : smpB l wd hg u v i < 256 := by
  unfold smpB
  split
  · rw [List.getD_eq_getElem?_getD]
    cases hx : l[(atI wd hg u v).toNat + i]? with
    | none => simp
    | some x =>
      have := hb x (List.mem_of_getElem? hx)
      simp only [Option.getD_some]
      omega
  · omega

theorem fa0 (B : Nat) : fieldAddrA Tryz.prog 24 (.ptr B 0) 0 = some (.ptr B 0) := by kernel_rfl
theorem fa1 (B : Nat) : fieldAddrA Tryz.prog 24 (.ptr B 0) 1 = some (.ptr B 1) := by kernel_rfl
theorem fa2 (B : Nat) : fieldAddrA Tryz.prog 24 (.ptr B 0) 2 = some (.ptr B 2) := by kernel_rfl
theorem box_agg (h : Heap) (f : Nat) (l : List AV) : boxA h f (.agg l) = some (.ptr f 0, newA h f l) := rfl
theorem alloc27 (h : Heap) (f : Nat) : allocA Tryz.prog h f 26 = some (.ptr f 0, newA h f [vi 0, vi 0, vi 0]) := by simp only [allocA, zero27]; rfl
theorem load3 {h : Heap} {B i : Nat} {l : List AV} {v : AV} (hB : rdA h B = l) (hi : l[i]? = some v) : loadA Tryz.prog h 3 (.ptr B i) = some v := by simp only [loadA, aggA3, hB, hi]
theorem load22 {h : Heap} {B i : Nat} {l : List AV} {v : AV} (hB : rdA h B = l) (hi : l[i]? = some v) : loadA Tryz.prog h 22 (.ptr B i) = some v := by simp only [loadA, aggA22, hB, hi]
theorem load27 {h : Heap} {B : Nat} {a b c : AV} (hB : rdA h B = [a, b, c]) : loadA Tryz.prog h 26 (.ptr B 0) = some (.agg [a, b, c]) := by simp only [loadA, aggA27, sizeA27, hB]; rfl
theorem build27 : buildA Tryz.prog 26 [] = some (.agg [vi 0, vi 0, vi 0]) := by kernel_rfl
theorem build27v (x y z : Int) : buildA Tryz.prog 26 [(0, vi x), (1, vi y), (2, vi z)] = some (.agg [vi x, vi y, vi z]) := by kernel_rfl
theorem store27 {h : Heap} {C : Nat} {a b c x y z : AV} (hC : h.get C = some (.cells [a, b, c] (.rw true) [])) (hx : [x, y, z].all AV.isCell = true) : storeA Tryz.prog h 26 (.ptr C 0) (.agg [x, y, z]) = some (h.put C (some (.cells [x, y, z] (.rw true) []))) := by
  simp only [storeA, AV.cells, sizeA27, pokeA, hC, hx]
  rfl

theorem rd_new (h : Heap) (f : Nat) (l : List AV) : rdA (newA h f l) f = l := by
  unfold rdA newA
  rw [Heap.get_put, if_pos rfl]

theorem cut_byte {cs : List AV} {o n : Nat} {l : List Int} (hc : cut cs o n = some (intsK .u8 l)) {i : Nat} (hi : i < l.length) : cs[o + i]? = some (.int .u8 (l.getD i 0)) := by
  unfold cut at hc
  cases hb : Nat.ble (o + n) cs.length with
  | false => rw [hb] at hc; simp at hc
  | true =>
    rw [hb] at hc
    simp only [cond_true, Option.some.injEq] at hc
    have h1 : ((cs.drop o).take n)[i]? = some (.int .u8 (l.getD i 0)) := by
      rw [hc]; simp [intsK, hi, List.getD_eq_getElem?_getD]
    rw [List.getElem?_take] at h1
    split at h1
    · rw [List.getElem?_drop] at h1; exact h1
    · simp at h1

theorem res_cell {e : Env} {h : Heap} {C : Nat} {v : AV} (h6 : e.get 6 = .ptr C 0) (hl : loadA Tryz.prog h 26 (.ptr C 0) = some v) : resultsA Tryz.prog Tryz.f4.results.toList e h = some [v] := by
  show (match loadA Tryz.prog h 26 (e.get 6) with
    | some v => match resultsA Tryz.prog [] e h with
      | some vs => some (v :: vs)
      | none => none
    | none => none) = _
  rw [h6, hl]
  rfl

set_option maxHeartbeats 4000000 in
theorem sample_runs {h : Heap} {p : AV} {l : List Int} {wd hg u v : Int} (hp : PixIs h p l) (hb : ∀ x, x ∈ l → 0 ≤ x ∧ x < 256) : ∃ h', Kp h h' ∧ Runs Tryz.prog XT 4 [.agg [vi wd, vi hg, p], vi u, vi v] h (.ret (colr l wd hg u v)) h' := by
  suffices hs : ∃ r h', Runs Tryz.prog XT 4 [.agg [vi wd, vi hg, p], vi u, vi v] h r h' ∧ (r = .ret (colr l wd hg u v) ∧ Kp h h') by
    obtain ⟨r, h', h1, rfl, h2⟩ := hs
    exact ⟨h', h2, h1⟩
  refine Runs.ends rfl Tryz.func4 rfl ?_
  generalize hE : Env.init [.agg [vi wd, vi hg, p], vi u, vi v] Tryz.f4.ntmps = e
  have e0 : e.get 0 = .agg [vi wd, vi hg, p] := by subst hE; rfl
  have e1 : e.get 1 = vi u := by subst hE; rfl
  have e2 : e.get 2 = vi v := by subst hE; rfl
  have es : e.sz = 75 := by subst hE; rfl
  clear hE
  refine W.seqR 2 rfl fun K all hK hall => ?_
  simp (maxSteps := 2000000) (disch := first | assumption | simp [es, Env.sz_put]) only [WO_nil, List.getElem?_cons_zero, List.getElem?_cons_succ, WO_cons, WD_nil, WD_cons, List.nil_append, List.append_nil, List.cons_append, sel, nthO, wantedA_free, wantedA_by, putA_into, putA_no, execA, opv, opvs, ofConst, ofScalar, pureR, newR, skipR, builtinA, Env.get_put, binA, arith, Nat.reduceEqDiff, Nat.reduceAdd, reduceIte, bind2, Heap.bump0, isConst, beq_self_eq_true, Bool.false_eq_true, Bool.or_true, Bool.or_false, Bool.not_true, Bool.not_false, undefA, Option.map_some, and_self, bTF, bFT, e0, box_agg, alloc27]
  subst hK; clear hall; try simp only [Then]
  have kp1 : Kp h (newA (newA (h.bump 2) h.next [vi wd, vi hg, p]) (h.next + 1) [vi 0, vi 0, vi 0]) := (((Kp.bump h 2).put (Nat.le_refl _) _).put (Nat.le_succ _) _)
  have hB1 : rdA (newA (newA (h.bump 2) h.next [vi wd, vi hg, p]) (h.next + 1) [vi 0, vi 0, vi 0]) h.next = [vi wd, vi hg, p] := by
    unfold rdA newA
    rw [Heap.get_put, if_neg (by omega), Heap.get_put, if_pos rfl]
  have hC1 : (newA (newA (h.bump 2) h.next [vi wd, vi hg, p]) (h.next + 1) [vi 0, vi 0, vi 0]).get (h.next + 1) = some (.cells [vi 0, vi 0, vi 0] (.rw true) []) := by
    unfold newA
    rw [Heap.get_put, if_pos rfl]
  have hn1 : (newA (newA (h.bump 2) h.next [vi wd, vi hg, p]) (h.next + 1) [vi 0, vi 0, vi 0]).next = h.next + 2 := rfl
  have hBn : h.next ≤ h.next := Nat.le_refl _
  generalize hBdef : h.next = B at hB1 hC1 hn1 kp1 hBn ⊢
  generalize newA (newA (h.bump 2) B [vi wd, vi hg, p]) (B + 1) [vi 0, vi 0, vi 0] = h1 at hB1 hC1 hn1 kp1 ⊢
  have hp1 := hp.ext kp1
  have hlen := hp1.len
  have lW : loadA Tryz.prog h1 3 (.ptr B 0) = some (vi wd) := load3 hB1 rfl
  have lH : loadA Tryz.prog h1 3 (.ptr B 1) = some (vi hg) := load3 hB1 rfl
  have lP : loadA Tryz.prog h1 22 (.ptr B 2) = some p := load22 hB1 rfl
  have zero : ¬ Right wd hg l → colr l wd hg u v = .agg [vi 0, vi 0, vi 0] := fun nr => by
    unfold colr smpB
    simp only [nr, if_false]
    rfl
  have hs0 : storeA Tryz.prog h1 26 (.ptr (B + 1) 0) (.agg [vi 0, vi 0, vi 0]) = some (h1.put (B + 1) (some (.cells [vi 0, vi 0, vi 0] (.rw true) []))) := store27 hC1 rfl
  have hst : (h1.put (B + 1) (some (.cells [vi 0, vi 0, vi 0] (.rw true) []))).get (B + 1) = some (.cells [vi 0, vi 0, vi 0] (.rw true) []) := by rw [Heap.get_put, if_pos rfl]
  have kp2 : Kp h (h1.put (B + 1) (some (.cells [vi 0, vi 0, vi 0] (.rw true) []))) := kp1.put (by omega) _
  have rd2 : rdA (h1.put (B + 1) (some (.cells [vi 0, vi 0, vi 0] (.rw true) []))) (B + 1) = [vi 0, vi 0, vi 0] := by unfold rdA; rw [hst]
  refine W.seqA ?_
  refine W.seqR 0 rfl fun K all hK hall => ?_
  have g3 : (all[3]?).bind (·.dst) = some 13 := by subst hall; rfl
  have g8 : (all[8]?).bind (·.dst) = some 18 := by subst hall; rfl
  have g13 : (all[13]?).bind (·.dst) = some 23 := by subst hall; rfl
  have g18 : (all[18]?).bind (·.dst) = some 28 := by subst hall; rfl
  by_cases c1 : wd < 1
  · have nr : ¬ Right wd hg l := fun r => by have := r.1; omega
    simp (maxSteps := 2000000) (disch := first | assumption | simp [es, Env.sz_put]) only [WO_nil, List.getElem?_cons_zero, List.getElem?_cons_succ, WO_cons, WD_nil, WD_cons, List.nil_append, List.append_nil, List.cons_append, sel, nthO, wantedA_free, wantedA_by, putA_into, putA_no, execA, opv, opvs, ofConst, ofScalar, pureR, newR, skipR, builtinA, Env.get_put, binA, arith, Nat.reduceEqDiff, Nat.reduceAdd, reduceIte, bind2, Heap.bump0, isConst, beq_self_eq_true, Bool.false_eq_true, Bool.or_true, Bool.or_false, Bool.not_true, Bool.not_false, undefA, Option.map_some, and_self, bTF, bFT, fa0, fa1, fa2, lW, lH, lP, hlen, g3, g8, g13, g18, c1, decide_true]
    subst hK; clear hall; try simp only [Then]
    refine W.seqT (W.condT (by simp only [opv, ofConst, ofScalar, Env.get_put, Nat.reduceEqDiff, reduceIte, ]) ?_)
    refine W.seqR 0 rfl fun K all hK hall => ?_
    simp (maxSteps := 2000000) (disch := first | assumption | simp [es, Env.sz_put]) only [WO_nil, List.getElem?_cons_zero, List.getElem?_cons_succ, WO_cons, WD_nil, WD_cons, List.nil_append, List.append_nil, List.cons_append, sel, nthO, wantedA_free, wantedA_by, putA_into, putA_no, execA, opv, opvs, ofConst, ofScalar, pureR, newR, skipR, builtinA, Env.get_put, binA, arith, Nat.reduceEqDiff, Nat.reduceAdd, reduceIte, bind2, Heap.bump0, isConst, beq_self_eq_true, Bool.false_eq_true, Bool.or_true, Bool.or_false, Bool.not_true, Bool.not_false, undefA, Option.map_some, and_self, bTF, bFT, parts, build27, hs0, skipR]
    subst hK; clear hall; try simp only [Then]
    refine W.ret ?_
    simp only [Then, BlockQ, LoopQ, EndsR, Nat.reduceEqDiff, reduceIte]
    refine ⟨_, res_cell (by simp only [Env.get_put, Nat.reduceEqDiff, reduceIte]) (load27 rd2), ?_, kp2⟩
    rw [zero nr]
    rfl
  by_cases c2 : wd > 1024
  · have nr : ¬ Right wd hg l := fun r => by have := r.2.1; omega
    simp (maxSteps := 2000000) (disch := first | assumption | simp [es, Env.sz_put]) only [WO_nil, List.getElem?_cons_zero, List.getElem?_cons_succ, WO_cons, WD_nil, WD_cons, List.nil_append, List.append_nil, List.cons_append, sel, nthO, wantedA_free, wantedA_by, putA_into, putA_no, execA, opv, opvs, ofConst, ofScalar, pureR, newR, skipR, builtinA, Env.get_put, binA, arith, Nat.reduceEqDiff, Nat.reduceAdd, reduceIte, bind2, Heap.bump0, isConst, beq_self_eq_true, Bool.false_eq_true, Bool.or_true, Bool.or_false, Bool.not_true, Bool.not_false, undefA, Option.map_some, and_self, bTF, bFT, fa0, fa1, fa2, lW, lH, lP, hlen, g3, g8, g13, g18, c1, c2, decide_true, decide_false]
    subst hK; clear hall; try simp only [Then]
    refine W.seqT (W.condT (by simp only [opv, ofConst, ofScalar, Env.get_put, Nat.reduceEqDiff, reduceIte, ]) ?_)
    refine W.seqR 0 rfl fun K all hK hall => ?_
    simp (maxSteps := 2000000) (disch := first | assumption | simp [es, Env.sz_put]) only [WO_nil, List.getElem?_cons_zero, List.getElem?_cons_succ, WO_cons, WD_nil, WD_cons, List.nil_append, List.append_nil, List.cons_append, sel, nthO, wantedA_free, wantedA_by, putA_into, putA_no, execA, opv, opvs, ofConst, ofScalar, pureR, newR, skipR, builtinA, Env.get_put, binA, arith, Nat.reduceEqDiff, Nat.reduceAdd, reduceIte, bind2, Heap.bump0, isConst, beq_self_eq_true, Bool.false_eq_true, Bool.or_true, Bool.or_false, Bool.not_true, Bool.not_false, undefA, Option.map_some, and_self, bTF, bFT, parts, build27, hs0, skipR]
    subst hK; clear hall; try simp only [Then]
    refine W.ret ?_
    simp only [Then, BlockQ, LoopQ, EndsR, Nat.reduceEqDiff, reduceIte]
    refine ⟨_, res_cell (by simp only [Env.get_put, Nat.reduceEqDiff, reduceIte]) (load27 rd2), ?_, kp2⟩
    rw [zero nr]
    rfl
  by_cases c3 : hg < 1
  · have nr : ¬ Right wd hg l := fun r => by have := r.2.2.1; omega
    simp (maxSteps := 2000000) (disch := first | assumption | simp [es, Env.sz_put]) only [WO_nil, List.getElem?_cons_zero, List.getElem?_cons_succ, WO_cons, WD_nil, WD_cons, List.nil_append, List.append_nil, List.cons_append, sel, nthO, wantedA_free, wantedA_by, putA_into, putA_no, execA, opv, opvs, ofConst, ofScalar, pureR, newR, skipR, builtinA, Env.get_put, binA, arith, Nat.reduceEqDiff, Nat.reduceAdd, reduceIte, bind2, Heap.bump0, isConst, beq_self_eq_true, Bool.false_eq_true, Bool.or_true, Bool.or_false, Bool.not_true, Bool.not_false, undefA, Option.map_some, and_self, bTF, bFT, fa0, fa1, fa2, lW, lH, lP, hlen, g3, g8, g13, g18, c1, c2, c3, decide_true, decide_false]
    subst hK; clear hall; try simp only [Then]
    refine W.seqT (W.condT (by simp only [opv, ofConst, ofScalar, Env.get_put, Nat.reduceEqDiff, reduceIte, ]) ?_)
    refine W.seqR 0 rfl fun K all hK hall => ?_
    simp (maxSteps := 2000000) (disch := first | assumption | simp [es, Env.sz_put]) only [WO_nil, List.getElem?_cons_zero, List.getElem?_cons_succ, WO_cons, WD_nil, WD_cons, List.nil_append, List.append_nil, List.cons_append, sel, nthO, wantedA_free, wantedA_by, putA_into, putA_no, execA, opv, opvs, ofConst, ofScalar, pureR, newR, skipR, builtinA, Env.get_put, binA, arith, Nat.reduceEqDiff, Nat.reduceAdd, reduceIte, bind2, Heap.bump0, isConst, beq_self_eq_true, Bool.false_eq_true, Bool.or_true, Bool.or_false, Bool.not_true, Bool.not_false, undefA, Option.map_some, and_self, bTF, bFT, parts, build27, hs0, skipR]
    subst hK; clear hall; try simp only [Then]
    refine W.ret ?_
    simp only [Then, BlockQ, LoopQ, EndsR, Nat.reduceEqDiff, reduceIte]
    refine ⟨_, res_cell (by simp only [Env.get_put, Nat.reduceEqDiff, reduceIte]) (load27 rd2), ?_, kp2⟩
    rw [zero nr]
    rfl
  by_cases c4 : hg > 1024
  · have nr : ¬ Right wd hg l := fun r => by have := r.2.2.2.1; omega
    simp (maxSteps := 2000000) (disch := first | assumption | simp [es, Env.sz_put]) only [WO_nil, List.getElem?_cons_zero, List.getElem?_cons_succ, WO_cons, WD_nil, WD_cons, List.nil_append, List.append_nil, List.cons_append, sel, nthO, wantedA_free, wantedA_by, putA_into, putA_no, execA, opv, opvs, ofConst, ofScalar, pureR, newR, skipR, builtinA, Env.get_put, binA, arith, Nat.reduceEqDiff, Nat.reduceAdd, reduceIte, bind2, Heap.bump0, isConst, beq_self_eq_true, Bool.false_eq_true, Bool.or_true, Bool.or_false, Bool.not_true, Bool.not_false, undefA, Option.map_some, and_self, bTF, bFT, fa0, fa1, fa2, lW, lH, lP, hlen, g3, g8, g13, g18, c1, c2, c3, c4, decide_true, decide_false]
    subst hK; clear hall; try simp only [Then]
    refine W.seqT (W.condT (by simp only [opv, ofConst, ofScalar, Env.get_put, Nat.reduceEqDiff, reduceIte, ]) ?_)
    refine W.seqR 0 rfl fun K all hK hall => ?_
    simp (maxSteps := 2000000) (disch := first | assumption | simp [es, Env.sz_put]) only [WO_nil, List.getElem?_cons_zero, List.getElem?_cons_succ, WO_cons, WD_nil, WD_cons, List.nil_append, List.append_nil, List.cons_append, sel, nthO, wantedA_free, wantedA_by, putA_into, putA_no, execA, opv, opvs, ofConst, ofScalar, pureR, newR, skipR, builtinA, Env.get_put, binA, arith, Nat.reduceEqDiff, Nat.reduceAdd, reduceIte, bind2, Heap.bump0, isConst, beq_self_eq_true, Bool.false_eq_true, Bool.or_true, Bool.or_false, Bool.not_true, Bool.not_false, undefA, Option.map_some, and_self, bTF, bFT, parts, build27, hs0, skipR]
    subst hK; clear hall; try simp only [Then]
    refine W.ret ?_
    simp only [Then, BlockQ, LoopQ, EndsR, Nat.reduceEqDiff, reduceIte]
    refine ⟨_, res_cell (by simp only [Env.get_put, Nat.reduceEqDiff, reduceIte]) (load27 rd2), ?_, kp2⟩
    rw [zero nr]
    rfl
  have b1 : 0 ≤ wd * hg := Int.mul_nonneg (by omega) (by omega)
  have b2 : wd * hg ≤ 1024 * hg := Int.mul_le_mul_of_nonneg_right (by omega) (by omega)
  have b3 : 4 * wd * hg = 4 * (wd * hg) := Int.mul_assoc _ _ _
  have w1 : IntKind.i64.wrap (4 * wd) = 4 * wd := wrap_i (by omega) (by omega)
  have w2 : IntKind.i64.wrap (4 * wd * hg) = 4 * wd * hg := wrap_i (by omega) (by omega)
  by_cases c5 : (l.length : Int) ≠ 4 * wd * hg
  · have nr : ¬ Right wd hg l := fun r => c5 r.2.2.2.2
    simp (maxSteps := 2000000) (disch := first | assumption | simp [es, Env.sz_put]) only [WO_nil, List.getElem?_cons_zero, List.getElem?_cons_succ, WO_cons, WD_nil, WD_cons, List.nil_append, List.append_nil, List.cons_append, sel, nthO, wantedA_free, wantedA_by, putA_into, putA_no, execA, opv, opvs, ofConst, ofScalar, pureR, newR, skipR, builtinA, Env.get_put, binA, arith, Nat.reduceEqDiff, Nat.reduceAdd, reduceIte, bind2, Heap.bump0, isConst, beq_self_eq_true, Bool.false_eq_true, Bool.or_true, Bool.or_false, Bool.not_true, Bool.not_false, undefA, Option.map_some, and_self, bTF, bFT, fa0, fa1, fa2, lW, lH, lP, hlen, g3, g8, g13, g18, c1, c2, c3, c4, decide_false, w1, w2, show ((l.length : Int) != 4 * wd * hg) = true from by simpa using c5]
    subst hK; clear hall; try simp only [Then]
    refine W.seqT (W.condT (by simp only [opv, ofConst, ofScalar, Env.get_put, Nat.reduceEqDiff, reduceIte, ]) ?_)
    refine W.seqR 0 rfl fun K all hK hall => ?_
    simp (maxSteps := 2000000) (disch := first | assumption | simp [es, Env.sz_put]) only [WO_nil, List.getElem?_cons_zero, List.getElem?_cons_succ, WO_cons, WD_nil, WD_cons, List.nil_append, List.append_nil, List.cons_append, sel, nthO, wantedA_free, wantedA_by, putA_into, putA_no, execA, opv, opvs, ofConst, ofScalar, pureR, newR, skipR, builtinA, Env.get_put, binA, arith, Nat.reduceEqDiff, Nat.reduceAdd, reduceIte, bind2, Heap.bump0, isConst, beq_self_eq_true, Bool.false_eq_true, Bool.or_true, Bool.or_false, Bool.not_true, Bool.not_false, undefA, Option.map_some, and_self, bTF, bFT, parts, build27, hs0, skipR]
    subst hK; clear hall; try simp only [Then]
    refine W.ret ?_
    simp only [Then, BlockQ, LoopQ, EndsR, Nat.reduceEqDiff, reduceIte]
    refine ⟨_, res_cell (by simp only [Env.get_put, Nat.reduceEqDiff, reduceIte]) (load27 rd2), ?_, kp2⟩
    rw [zero nr]
    rfl
  have c5 : (l.length : Int) = 4 * wd * hg := Classical.not_not.1 c5
  have rt : Right wd hg l := ⟨by omega, by omega, by omega, by omega, c5⟩
  have n5 : ((l.length : Int) != 4 * wd * hg) = false := by simpa using c5
  simp (maxSteps := 2000000) (disch := first | assumption | simp [es, Env.sz_put]) only [WO_nil, List.getElem?_cons_zero, List.getElem?_cons_succ, WO_cons, WD_nil, WD_cons, List.nil_append, List.append_nil, List.cons_append, sel, nthO, wantedA_free, wantedA_by, putA_into, putA_no, execA, opv, opvs, ofConst, ofScalar, pureR, newR, skipR, builtinA, Env.get_put, binA, arith, Nat.reduceEqDiff, Nat.reduceAdd, reduceIte, bind2, Heap.bump0, isConst, beq_self_eq_true, Bool.false_eq_true, Bool.or_true, Bool.or_false, Bool.not_true, Bool.not_false, undefA, Option.map_some, and_self, bTF, bFT, fa0, fa1, fa2, lW, lH, lP, hlen, g3, g8, g13, g18, c1, c2, c3, c4, decide_false, w1, w2, n5]
  subst hK; clear hall; try simp only [Then]
  refine W.seqT (W.condF (by simp only [opv, ofConst, ofScalar, Env.get_put, Nat.reduceEqDiff, reduceIte, ]) ?_)
  refine W.skip ?_
  simp only [Then]
  obtain ⟨at0, at1⟩ := atI_lt rt u v
  have pv := plcI_lt (a := v) (n := hg) (by omega)
  have pu := plcI_lt (a := u) (n := wd) (by omega)
  have m1 : 0 ≤ plcI v hg * wd := Int.mul_nonneg pv.1 (by omega)
  have m2 : plcI v hg * wd ≤ 1024 * wd := Int.mul_le_mul_of_nonneg_right (by omega) (by omega)
  have x1 : IntKind.i64.wrap (plcI v hg * wd) = plcI v hg * wd := wrap_i (by omega) (by omega)
  have x2 : IntKind.i64.wrap (plcI v hg * wd + plcI u wd) = plcI v hg * wd + plcI u wd := wrap_i (by omega) (by omega)
  have x3 : IntKind.i64.wrap (4 * (plcI v hg * wd + plcI u wd)) = atI wd hg u v := wrap_i (by omega) (by omega)
  rcases hp1 with ⟨rfl, rfl⟩ | ⟨b, cap, rfl, hcut, hbn, hcap⟩
  · exfalso
    simp only [List.length_nil] at at1
    omega
  have hb0 : b < h.next := by
    rcases hp with ⟨hx, _⟩ | ⟨b', cap', hx, _, hb', _⟩
    · cases hx
    · injection hx with hx _ _ _ _ _
      omega
  obtain ⟨k, hk⟩ : ∃ k : Nat, (k : Int) = atI wd hg u v := ⟨(atI wd hg u v).toNat, by omega⟩
  have hk2 : (atI wd hg u v).toNat = k := by omega
  have sl : ∀ h' : Heap, sliceOfA Tryz.prog h' 22 (.slice b 0 l.length cap true 1) (some (vi (atI wd hg u v))) none none = some (.slice b k (l.length - k) (cap - k) true 1) := fun h' => by
    have z : 0 ≤ atI wd hg u v ∧ atI wd hg u v ≤ (l.length : Nat) := ⟨at0, by omega⟩
    simp only [sliceOfA, und22, sizeA5, boundA]
    rw [if_pos z, hk2]
    show some (AV.slice b (0 + k * 1) (l.length - k) (cap - k) true 1) = _
    rw [Nat.zero_add, Nat.mul_one]
  have ix : ∀ i : Nat, i < 4 → indexAddrA Tryz.prog 22 (.slice b k (l.length - k) (cap - k) true 1) (vi i) = some (.ptr b (k + i)) := fun i hi => by
    simp only [indexAddrA, und22, sizeA5]
    rw [show Nat.beq 1 1 = true from rfl, cond_true, if_pos (by omega), Int.toNat_natCast, Nat.mul_one]
  have ld : ∀ h' : Heap, rdA h' b = rdA h1 b → ∀ i : Nat, i < 4 → loadA Tryz.prog h' 5 (.ptr b (k + i)) = some (.int .u8 (smpB l wd hg u v i : Int)) := fun h' hI i hi => by
    have := cut_byte hcut (i := k + i) (by omega)
    simp only [loadA, aggA5, hI]
    rw [show k + i = 0 + (k + i) by omega, this]
    have hs : smpB l wd hg u v i = (l.getD (k + i) 0).toNat := by
      unfold smpB
      rw [if_pos rt, hk2]
    rw [hs]
    have : 0 ≤ l.getD (k + i) 0 := by
      rw [List.getD_eq_getElem?_getD]
      cases hx : l[k + i]? with
      | none => simp
      | some y =>
        have := hb y (List.mem_of_getElem? hx)
        simp only [Option.getD_some]
        omega
    rw [Int.toNat_of_nonneg this]
  have hBlt : B < h1.next := by omega
  have lW' : ∀ h', Kp h1 h' → loadA Tryz.prog h' 3 (.ptr B 0) = some (vi wd) := fun h' hI => load3 ((hI.rd hBlt).trans hB1) rfl
  have lH' : ∀ h', Kp h1 h' → loadA Tryz.prog h' 3 (.ptr B 1) = some (vi hg) := fun h' hI => load3 ((hI.rd hBlt).trans hB1) rfl
  have lP' : ∀ h', Kp h1 h' → loadA Tryz.prog h' 22 (.ptr B 2) = some (.slice b 0 l.length cap true 1) := fun h' hI => load22 ((hI.rd hBlt).trans hB1) rfl
  obtain ⟨ha, ka, ra⟩ := place_runs (h := h1) (a := v) (n := hg) (by omega) (by omega)
  obtain ⟨hb', kb, rb⟩ := place_runs (h := ha) (a := u) (n := wd) (by omega) (by omega)
  have kab := ka.trans kb
  clear g3 g8 g13 g18
  refine W.seqR 0 rfl fun K all hK hall => ?_
  simp (maxSteps := 2000000) (disch := first | assumption | simp [es, Env.sz_put]) only [WO_nil, List.getElem?_cons_zero, List.getElem?_cons_succ, WO_cons, WD_nil, WD_cons, List.nil_append, List.append_nil, List.cons_append, sel, nthO, wantedA_free, wantedA_by, putA_into, putA_no, execA, opv, opvs, ofConst, ofScalar, pureR, newR, skipR, builtinA, Env.get_put, binA, arith, Nat.reduceEqDiff, Nat.reduceAdd, reduceIte, bind2, Heap.bump0, isConst, beq_self_eq_true, Bool.false_eq_true, Bool.or_true, Bool.or_false, Bool.not_true, Bool.not_false, undefA, Option.map_some, and_self, bTF, bFT]
  subst hK; clear hall; try simp only [Then]
  refine W.seqI (fun h' => Kp h1 h') 0 [0, 1, 2, 3, 4, 5, 7, 8, 10, 11, 12, 13, 6, 9, 14, 15, 16, 17, 18] [.pure, .read, .pure, .pure, .pure, .read, .act, .pure, .read, .pure, .pure, .pure, .pure, .read, .act, .pure, .pure, .pure, .pure] (by kernel_rfl) (by kernel_rfl) (by kernel_rfl) (by kernel_rfl) rfl rfl fun K all hK hall => ?_
  simp (maxSteps := 4000000) (disch := first | assumption | simp [es, Env.sz_put]) only [WO_nil, List.getElem?_cons_zero, List.getElem?_cons_succ, WO_cons, WD_nil, WD_cons, List.nil_append, List.append_nil, List.cons_append, sel, nthO, wantedA_free, wantedA_by, putA_into, putA_no, execA, opv, opvs, ofConst, ofScalar, pureR, newR, skipR, builtinA, Env.get_put, binA, arith, Nat.reduceEqDiff, Nat.reduceAdd, reduceIte, bind2, Heap.bump0, isConst, beq_self_eq_true, Bool.false_eq_true, Bool.or_true, Bool.or_false, Bool.not_true, Bool.not_false, undefA, Option.map_some, and_self, bTF, bFT, WI_nil, WI_read, WI_pure, WI_make, WI_act, ActI_pure, ActI_make, ActI_act, true_and, sel3, nthK, fa2]
  refine ReadI.into (v :=  .slice b 0 l.length cap true 1 ) (Kp.refl h1 ) (fun h' hI => by simp (maxSteps := 4000000) (disch := first | assumption | simp [es, Env.sz_put]) only [WO_nil, List.getElem?_cons_zero, List.getElem?_cons_succ, WO_cons, WD_nil, WD_cons, List.nil_append, List.append_nil, List.cons_append, sel, nthO, wantedA_free, wantedA_by, putA_into, putA_no, execA, opv, opvs, ofConst, ofScalar, pureR, newR, skipR, builtinA, Env.get_put, binA, arith, Nat.reduceEqDiff, Nat.reduceAdd, reduceIte, bind2, Heap.bump0, isConst, beq_self_eq_true, Bool.false_eq_true, Bool.or_true, Bool.or_false, Bool.not_true, Bool.not_false, undefA, Option.map_some, and_self, bTF, bFT,  fa2, lP' h' hI]) (by simp [AV.beq]) (by simp [es, Env.sz_put]) ?_
  simp (maxSteps := 4000000) (disch := first | assumption | simp [es, Env.sz_put]) only [WO_nil, List.getElem?_cons_zero, List.getElem?_cons_succ, WO_cons, WD_nil, WD_cons, List.nil_append, List.append_nil, List.cons_append, sel, nthO, wantedA_free, wantedA_by, putA_into, putA_no, execA, opv, opvs, ofConst, ofScalar, pureR, newR, skipR, builtinA, Env.get_put, binA, arith, Nat.reduceEqDiff, Nat.reduceAdd, reduceIte, bind2, Heap.bump0, isConst, beq_self_eq_true, Bool.false_eq_true, Bool.or_true, Bool.or_false, Bool.not_true, Bool.not_false, undefA, Option.map_some, and_self, bTF, bFT, WI_nil, WI_read, WI_pure, WI_make, WI_act, ActI_pure, ActI_make, ActI_act, true_and, sel3, nthK, e2, fa1]
  refine ReadI.into (v :=  vi hg ) (Kp.refl h1 ) (fun h' hI => by simp (maxSteps := 4000000) (disch := first | assumption | simp [es, Env.sz_put]) only [WO_nil, List.getElem?_cons_zero, List.getElem?_cons_succ, WO_cons, WD_nil, WD_cons, List.nil_append, List.append_nil, List.cons_append, sel, nthO, wantedA_free, wantedA_by, putA_into, putA_no, execA, opv, opvs, ofConst, ofScalar, pureR, newR, skipR, builtinA, Env.get_put, binA, arith, Nat.reduceEqDiff, Nat.reduceAdd, reduceIte, bind2, Heap.bump0, isConst, beq_self_eq_true, Bool.false_eq_true, Bool.or_true, Bool.or_false, Bool.not_true, Bool.not_false, undefA, Option.map_some, and_self, bTF, bFT,  fa1, lH' h' hI]) (by simp [AV.beq]) (by simp [es, Env.sz_put]) ?_
  simp (maxSteps := 4000000) (disch := first | assumption | simp [es, Env.sz_put]) only [WO_nil, List.getElem?_cons_zero, List.getElem?_cons_succ, WO_cons, WD_nil, WD_cons, List.nil_append, List.append_nil, List.cons_append, sel, nthO, wantedA_free, wantedA_by, putA_into, putA_no, execA, opv, opvs, ofConst, ofScalar, pureR, newR, skipR, builtinA, Env.get_put, binA, arith, Nat.reduceEqDiff, Nat.reduceAdd, reduceIte, bind2, Heap.bump0, isConst, beq_self_eq_true, Bool.false_eq_true, Bool.or_true, Bool.or_false, Bool.not_true, Bool.not_false, undefA, Option.map_some, and_self, bTF, bFT, WI_nil, WI_read, WI_pure, WI_make, WI_act, ActI_pure, ActI_make, ActI_act, true_and, sel3, nthK, fa0]
  refine ReadI.into (v :=  vi wd ) (Kp.refl h1 ) (fun h' hI => by simp (maxSteps := 4000000) (disch := first | assumption | simp [es, Env.sz_put]) only [WO_nil, List.getElem?_cons_zero, List.getElem?_cons_succ, WO_cons, WD_nil, WD_cons, List.nil_append, List.append_nil, List.cons_append, sel, nthO, wantedA_free, wantedA_by, putA_into, putA_no, execA, opv, opvs, ofConst, ofScalar, pureR, newR, skipR, builtinA, Env.get_put, binA, arith, Nat.reduceEqDiff, Nat.reduceAdd, reduceIte, bind2, Heap.bump0, isConst, beq_self_eq_true, Bool.false_eq_true, Bool.or_true, Bool.or_false, Bool.not_true, Bool.not_false, undefA, Option.map_some, and_self, bTF, bFT,  fa0, lW' h' hI]) (by simp [AV.beq]) (by simp [es, Env.sz_put]) ?_
  simp (maxSteps := 4000000) (disch := first | assumption | simp [es, Env.sz_put]) only [WO_nil, List.getElem?_cons_zero, List.getElem?_cons_succ, WO_cons, WD_nil, WD_cons, List.nil_append, List.append_nil, List.cons_append, sel, nthO, wantedA_free, wantedA_by, putA_into, putA_no, execA, opv, opvs, ofConst, ofScalar, pureR, newR, skipR, builtinA, Env.get_put, binA, arith, Nat.reduceEqDiff, Nat.reduceAdd, reduceIte, bind2, Heap.bump0, isConst, beq_self_eq_true, Bool.false_eq_true, Bool.or_true, Bool.or_false, Bool.not_true, Bool.not_false, undefA, Option.map_some, and_self, bTF, bFT, WI_nil, WI_read, WI_pure, WI_make, WI_act, ActI_pure, ActI_make, ActI_act, true_and, sel3, nthK, e1, fa0]
  refine ReadI.into (v :=  vi wd ) (Kp.refl h1 ) (fun h' hI => by simp (maxSteps := 4000000) (disch := first | assumption | simp [es, Env.sz_put]) only [WO_nil, List.getElem?_cons_zero, List.getElem?_cons_succ, WO_cons, WD_nil, WD_cons, List.nil_append, List.append_nil, List.cons_append, sel, nthO, wantedA_free, wantedA_by, putA_into, putA_no, execA, opv, opvs, ofConst, ofScalar, pureR, newR, skipR, builtinA, Env.get_put, binA, arith, Nat.reduceEqDiff, Nat.reduceAdd, reduceIte, bind2, Heap.bump0, isConst, beq_self_eq_true, Bool.false_eq_true, Bool.or_true, Bool.or_false, Bool.not_true, Bool.not_false, undefA, Option.map_some, and_self, bTF, bFT,  fa0, lW' h' hI]) (by simp [AV.beq]) (by simp [es, Env.sz_put]) ?_
  simp (maxSteps := 4000000) (disch := first | assumption | simp [es, Env.sz_put]) only [WO_nil, List.getElem?_cons_zero, List.getElem?_cons_succ, WO_cons, WD_nil, WD_cons, List.nil_append, List.append_nil, List.cons_append, sel, nthO, wantedA_free, wantedA_by, putA_into, putA_no, execA, opv, opvs, ofConst, ofScalar, pureR, newR, skipR, builtinA, Env.get_put, binA, arith, Nat.reduceEqDiff, Nat.reduceAdd, reduceIte, bind2, Heap.bump0, isConst, beq_self_eq_true, Bool.false_eq_true, Bool.or_true, Bool.or_false, Bool.not_true, Bool.not_false, undefA, Option.map_some, and_self, bTF, bFT, WI_nil, WI_read, WI_pure, WI_make, WI_act, ActI_pure, ActI_make, ActI_act, true_and, sel3, nthK, e2]
  refine CallI.into (ra ) (by simp [es, Env.sz_put]) ( ka) ?_
  simp (maxSteps := 4000000) (disch := first | assumption | simp [es, Env.sz_put]) only [WO_nil, List.getElem?_cons_zero, List.getElem?_cons_succ, WO_cons, WD_nil, WD_cons, List.nil_append, List.append_nil, List.cons_append, sel, nthO, wantedA_free, wantedA_by, putA_into, putA_no, execA, opv, opvs, ofConst, ofScalar, pureR, newR, skipR, builtinA, Env.get_put, binA, arith, Nat.reduceEqDiff, Nat.reduceAdd, reduceIte, bind2, Heap.bump0, isConst, beq_self_eq_true, Bool.false_eq_true, Bool.or_true, Bool.or_false, Bool.not_true, Bool.not_false, undefA, Option.map_some, and_self, bTF, bFT, WI_nil, WI_read, WI_pure, WI_make, WI_act, ActI_pure, ActI_make, ActI_act, true_and, sel3, nthK, x1]
  refine CallI.into (rb ) (by simp [es, Env.sz_put]) ( kab) ?_
  simp (maxSteps := 4000000) (disch := first | assumption | simp [es, Env.sz_put]) only [WO_nil, List.getElem?_cons_zero, List.getElem?_cons_succ, WO_cons, WD_nil, WD_cons, List.nil_append, List.append_nil, List.cons_append, sel, nthO, wantedA_free, wantedA_by, putA_into, putA_no, execA, opv, opvs, ofConst, ofScalar, pureR, newR, skipR, builtinA, Env.get_put, binA, arith, Nat.reduceEqDiff, Nat.reduceAdd, reduceIte, bind2, Heap.bump0, isConst, beq_self_eq_true, Bool.false_eq_true, Bool.or_true, Bool.or_false, Bool.not_true, Bool.not_false, undefA, Option.map_some, and_self, bTF, bFT, WI_nil, WI_read, WI_pure, WI_make, WI_act, ActI_pure, ActI_make, ActI_act, true_and, sel3, nthK, x2, x3, opvO, sl]
  subst hK; clear hall; try simp only [Then]
  refine W.seqR 0 rfl fun K all hK hall => ?_
  simp (maxSteps := 2000000) (disch := first | assumption | simp [es, Env.sz_put]) only [WO_nil, List.getElem?_cons_zero, List.getElem?_cons_succ, WO_cons, WD_nil, WD_cons, List.nil_append, List.append_nil, List.cons_append, sel, nthO, wantedA_free, wantedA_by, putA_into, putA_no, execA, opv, opvs, ofConst, ofScalar, pureR, newR, skipR, builtinA, Env.get_put, binA, arith, Nat.reduceEqDiff, Nat.reduceAdd, reduceIte, bind2, Heap.bump0, isConst, beq_self_eq_true, Bool.false_eq_true, Bool.or_true, Bool.or_false, Bool.not_true, Bool.not_false, undefA, Option.map_some, and_self, bTF, bFT]
  subst hK; clear hall; try simp only [Then]
  have hbB : b ≠ B + 1 := by omega
  have rdb : rdA hb' b = rdA h1 b := kab.rd hbn
  have hC2 : hb'.get (B + 1) = some (.cells [vi 0, vi 0, vi 0] (.rw true) []) := by rw [kab.2 (B + 1) (by omega)]; exact hC1
  have kp3 : Kp h hb' := kp1.trans kab
  have ix0 := ix 0 (by omega)
  have ix1 := ix 1 (by omega)
  have ix2 := ix 2 (by omega)
  have ix0 : indexAddrA Tryz.prog 22 (.slice b k (l.length - k) (cap - k) true 1) (.int .i64 0) = some (.ptr b (k + 0)) := ix0
  have ix1 : indexAddrA Tryz.prog 22 (.slice b k (l.length - k) (cap - k) true 1) (.int .i64 1) = some (.ptr b (k + 1)) := ix1
  have ix2 : indexAddrA Tryz.prog 22 (.slice b k (l.length - k) (cap - k) true 1) (.int .i64 2) = some (.ptr b (k + 2)) := ix2
  have lt0 := smpB_lt hb wd hg u v 0
  have lt1 := smpB_lt hb wd hg u v 1
  have lt2 := smpB_lt hb wd hg u v 2
  have hs1 : storeA Tryz.prog hb' 26 (.ptr (B + 1) 0) (.agg [vi (share (smpB l wd hg u v 0)), vi (share (smpB l wd hg u v 1)), vi (share (smpB l wd hg u v 2))]) = some (hb'.put (B + 1) (some (.cells [vi (share (smpB l wd hg u v 0)), vi (share (smpB l wd hg u v 1)), vi (share (smpB l wd hg u v 2))] (.rw true) []))) := store27 hC2 rfl
  have rd3 : rdA (hb'.put (B + 1) (some (.cells [vi (share (smpB l wd hg u v 0)), vi (share (smpB l wd hg u v 1)), vi (share (smpB l wd hg u v 2))] (.rw true) []))) (B + 1) = [vi (share (smpB l wd hg u v 0)), vi (share (smpB l wd hg u v 1)), vi (share (smpB l wd hg u v 2))] := by
    unfold rdA
    rw [Heap.get_put, if_pos rfl]
  have rd4 : rdA (hb'.put (B + 1) (some (.cells [vi (share (smpB l wd hg u v 0)), vi (share (smpB l wd hg u v 1)), vi (share (smpB l wd hg u v 2))] (.rw true) []))) b = rdA h1 b := by
    rw [← rdb]
    unfold rdA
    rw [Heap.get_put, if_neg (fun e => hbB e.symm)]
  have kp4 : Kp h (hb'.put (B + 1) (some (.cells [vi (share (smpB l wd hg u v 0)), vi (share (smpB l wd hg u v 1)), vi (share (smpB l wd hg u v 2))] (.rw true) []))) := kp3.put (by omega) _
  refine W.seqI (fun h' => rdA h' b = rdA h1 b) 0 [0, 1, 2, 3, 5, 6, 7, 8, 10, 11, 12, 13, 4, 9, 14, 15, 16] [.pure, .pure, .pure, .read, .act, .pure, .pure, .pure, .read, .act, .pure, .pure, .pure, .read, .act, .pure, .act] (by kernel_rfl) (by kernel_rfl) (by kernel_rfl) (by kernel_rfl) rfl rfl fun K all hK hall => ?_
  simp (maxSteps := 4000000) (disch := first | assumption | simp [es, Env.sz_put]) only [WO_nil, List.getElem?_cons_zero, List.getElem?_cons_succ, WO_cons, WD_nil, WD_cons, List.nil_append, List.append_nil, List.cons_append, sel, nthO, wantedA_free, wantedA_by, putA_into, putA_no, execA, opv, opvs, ofConst, ofScalar, pureR, newR, skipR, builtinA, Env.get_put, binA, arith, Nat.reduceEqDiff, Nat.reduceAdd, reduceIte, bind2, Heap.bump0, isConst, beq_self_eq_true, Bool.false_eq_true, Bool.or_true, Bool.or_false, Bool.not_true, Bool.not_false, undefA, Option.map_some, and_self, bTF, bFT, WI_nil, WI_read, WI_pure, WI_make, WI_act, ActI_pure, ActI_make, ActI_act, true_and, sel3, nthK, ix0]
  refine ReadI.into (v :=  .int .u8 (smpB l wd hg u v 0 : Int) ) (rdb ) (fun h' hI => by simp (maxSteps := 4000000) (disch := first | assumption | simp [es, Env.sz_put]) only [WO_nil, List.getElem?_cons_zero, List.getElem?_cons_succ, WO_cons, WD_nil, WD_cons, List.nil_append, List.append_nil, List.cons_append, sel, nthO, wantedA_free, wantedA_by, putA_into, putA_no, execA, opv, opvs, ofConst, ofScalar, pureR, newR, skipR, builtinA, Env.get_put, binA, arith, Nat.reduceEqDiff, Nat.reduceAdd, reduceIte, bind2, Heap.bump0, isConst, beq_self_eq_true, Bool.false_eq_true, Bool.or_true, Bool.or_false, Bool.not_true, Bool.not_false, undefA, Option.map_some, and_self, bTF, bFT,  ix0, ld h' hI 0 (by omega)]) (by simp [AV.beq]) (by simp [es, Env.sz_put]) ?_
  simp (maxSteps := 4000000) (disch := first | assumption | simp [es, Env.sz_put]) only [WO_nil, List.getElem?_cons_zero, List.getElem?_cons_succ, WO_cons, WD_nil, WD_cons, List.nil_append, List.append_nil, List.cons_append, sel, nthO, wantedA_free, wantedA_by, putA_into, putA_no, execA, opv, opvs, ofConst, ofScalar, pureR, newR, skipR, builtinA, Env.get_put, binA, arith, Nat.reduceEqDiff, Nat.reduceAdd, reduceIte, bind2, Heap.bump0, isConst, beq_self_eq_true, Bool.false_eq_true, Bool.or_true, Bool.or_false, Bool.not_true, Bool.not_false, undefA, Option.map_some, and_self, bTF, bFT, WI_nil, WI_read, WI_pure, WI_make, WI_act, ActI_pure, ActI_make, ActI_act, true_and, sel3, nthK, ix1]
  refine ReadI.into (v :=  .int .u8 (smpB l wd hg u v 1 : Int) ) (rdb ) (fun h' hI => by simp (maxSteps := 4000000) (disch := first | assumption | simp [es, Env.sz_put]) only [WO_nil, List.getElem?_cons_zero, List.getElem?_cons_succ, WO_cons, WD_nil, WD_cons, List.nil_append, List.append_nil, List.cons_append, sel, nthO, wantedA_free, wantedA_by, putA_into, putA_no, execA, opv, opvs, ofConst, ofScalar, pureR, newR, skipR, builtinA, Env.get_put, binA, arith, Nat.reduceEqDiff, Nat.reduceAdd, reduceIte, bind2, Heap.bump0, isConst, beq_self_eq_true, Bool.false_eq_true, Bool.or_true, Bool.or_false, Bool.not_true, Bool.not_false, undefA, Option.map_some, and_self, bTF, bFT,  ix1, ld h' hI 1 (by omega)]) (by simp [AV.beq]) (by simp [es, Env.sz_put]) ?_
  simp (maxSteps := 4000000) (disch := first | assumption | simp [es, Env.sz_put]) only [WO_nil, List.getElem?_cons_zero, List.getElem?_cons_succ, WO_cons, WD_nil, WD_cons, List.nil_append, List.append_nil, List.cons_append, sel, nthO, wantedA_free, wantedA_by, putA_into, putA_no, execA, opv, opvs, ofConst, ofScalar, pureR, newR, skipR, builtinA, Env.get_put, binA, arith, Nat.reduceEqDiff, Nat.reduceAdd, reduceIte, bind2, Heap.bump0, isConst, beq_self_eq_true, Bool.false_eq_true, Bool.or_true, Bool.or_false, Bool.not_true, Bool.not_false, undefA, Option.map_some, and_self, bTF, bFT, WI_nil, WI_read, WI_pure, WI_make, WI_act, ActI_pure, ActI_make, ActI_act, true_and, sel3, nthK, ix2]
  refine ReadI.into (v :=  .int .u8 (smpB l wd hg u v 2 : Int) ) (rdb ) (fun h' hI => by simp (maxSteps := 4000000) (disch := first | assumption | simp [es, Env.sz_put]) only [WO_nil, List.getElem?_cons_zero, List.getElem?_cons_succ, WO_cons, WD_nil, WD_cons, List.nil_append, List.append_nil, List.cons_append, sel, nthO, wantedA_free, wantedA_by, putA_into, putA_no, execA, opv, opvs, ofConst, ofScalar, pureR, newR, skipR, builtinA, Env.get_put, binA, arith, Nat.reduceEqDiff, Nat.reduceAdd, reduceIte, bind2, Heap.bump0, isConst, beq_self_eq_true, Bool.false_eq_true, Bool.or_true, Bool.or_false, Bool.not_true, Bool.not_false, undefA, Option.map_some, and_self, bTF, bFT,  ix2, ld h' hI 2 (by omega)]) (by simp [AV.beq]) (by simp [es, Env.sz_put]) ?_
  simp (maxSteps := 4000000) (disch := first | assumption | simp [es, Env.sz_put]) only [WO_nil, List.getElem?_cons_zero, List.getElem?_cons_succ, WO_cons, WD_nil, WD_cons, List.nil_append, List.append_nil, List.cons_append, sel, nthO, wantedA_free, wantedA_by, putA_into, putA_no, execA, opv, opvs, ofConst, ofScalar, pureR, newR, skipR, builtinA, Env.get_put, binA, arith, Nat.reduceEqDiff, Nat.reduceAdd, reduceIte, bind2, Heap.bump0, isConst, beq_self_eq_true, Bool.false_eq_true, Bool.or_true, Bool.or_false, Bool.not_true, Bool.not_false, undefA, Option.map_some, and_self, bTF, bFT, WI_nil, WI_read, WI_pure, WI_make, WI_act, ActI_pure, ActI_make, ActI_act, true_and, sel3, nthK, ix0]
  refine CallI.into (part_runs hb' _ lt0 ) (by simp [es, Env.sz_put]) ( rdb) ?_
  simp (maxSteps := 4000000) (disch := first | assumption | simp [es, Env.sz_put]) only [WO_nil, List.getElem?_cons_zero, List.getElem?_cons_succ, WO_cons, WD_nil, WD_cons, List.nil_append, List.append_nil, List.cons_append, sel, nthO, wantedA_free, wantedA_by, putA_into, putA_no, execA, opv, opvs, ofConst, ofScalar, pureR, newR, skipR, builtinA, Env.get_put, binA, arith, Nat.reduceEqDiff, Nat.reduceAdd, reduceIte, bind2, Heap.bump0, isConst, beq_self_eq_true, Bool.false_eq_true, Bool.or_true, Bool.or_false, Bool.not_true, Bool.not_false, undefA, Option.map_some, and_self, bTF, bFT, WI_nil, WI_read, WI_pure, WI_make, WI_act, ActI_pure, ActI_make, ActI_act, true_and, sel3, nthK, ix1]
  refine CallI.into (part_runs hb' _ lt1 ) (by simp [es, Env.sz_put]) ( rdb) ?_
  simp (maxSteps := 4000000) (disch := first | assumption | simp [es, Env.sz_put]) only [WO_nil, List.getElem?_cons_zero, List.getElem?_cons_succ, WO_cons, WD_nil, WD_cons, List.nil_append, List.append_nil, List.cons_append, sel, nthO, wantedA_free, wantedA_by, putA_into, putA_no, execA, opv, opvs, ofConst, ofScalar, pureR, newR, skipR, builtinA, Env.get_put, binA, arith, Nat.reduceEqDiff, Nat.reduceAdd, reduceIte, bind2, Heap.bump0, isConst, beq_self_eq_true, Bool.false_eq_true, Bool.or_true, Bool.or_false, Bool.not_true, Bool.not_false, undefA, Option.map_some, and_self, bTF, bFT, WI_nil, WI_read, WI_pure, WI_make, WI_act, ActI_pure, ActI_make, ActI_act, true_and, sel3, nthK, ix2]
  refine CallI.into (part_runs hb' _ lt2 ) (by simp [es, Env.sz_put]) ( rdb) ?_
  simp (maxSteps := 4000000) (disch := first | assumption | simp [es, Env.sz_put]) only [WO_nil, List.getElem?_cons_zero, List.getElem?_cons_succ, WO_cons, WD_nil, WD_cons, List.nil_append, List.append_nil, List.cons_append, sel, nthO, wantedA_free, wantedA_by, putA_into, putA_no, execA, opv, opvs, ofConst, ofScalar, pureR, newR, skipR, builtinA, Env.get_put, binA, arith, Nat.reduceEqDiff, Nat.reduceAdd, reduceIte, bind2, Heap.bump0, isConst, beq_self_eq_true, Bool.false_eq_true, Bool.or_true, Bool.or_false, Bool.not_true, Bool.not_false, undefA, Option.map_some, and_self, bTF, bFT, WI_nil, WI_read, WI_pure, WI_make, WI_act, ActI_pure, ActI_make, ActI_act, true_and, sel3, nthK, parts, build27v, skipR, hs1, rd4]
  subst hK; clear hall; try simp only [Then]
  refine W.ret ?_
  simp only [Then, BlockQ, LoopQ, EndsR, Nat.reduceEqDiff, reduceIte]
  refine ⟨_, res_cell (by simp only [Env.get_put, Nat.reduceEqDiff, reduceIte]) (load27 rd3), ?_, kp4⟩
  rfl

end Go.Proofs.YtahdafekballcaaGreat.AM
