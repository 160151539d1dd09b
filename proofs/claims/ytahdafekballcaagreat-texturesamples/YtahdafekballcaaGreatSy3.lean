/-
  The colours of a texture: the document's own sample. Conditions: none.
-/
import Derived.Test.YtahdafekballcaaGreatSy2
namespace Go.Proofs.YtahdafekballcaaGreat.AM
open Go Go.Proofs
set_option linter.unusedVariables false
set_option linter.unusedSimpArgs false

theorem aggA2 : aggA Tryz.prog 2 = some false := by kernel_rfl
theorem sizeA2 : sizeA Tryz.prog 2 = some 1 := by kernel_rfl
theorem aggA24 : aggA Tryz.prog 24 = some true := by kernel_rfl
theorem sizeA24 : sizeA Tryz.prog 24 = some 3 := by kernel_rfl
theorem und36 : Tryz.prog.underlying 36 = some (.array 3 2) := by kernel_rfl
theorem zero36 : zeroA Tryz.prog 36 = some (.agg [vi 0, vi 0, vi 0]) := by kernel_rfl
theorem load2 {h : Heap} {B i : Nat} {l : List AV} {v : AV} (hB : rdA h B = l) (hi : l[i]? = some v) : loadA Tryz.prog h 2 (.ptr B i) = some v := by simp only [loadA, aggA2, hB, hi]
theorem load24 {h : Heap} {B : Nat} {a b c : AV} (hB : rdA h B = [a, b, c]) : loadA Tryz.prog h 24 (.ptr B 0) = some (.agg [a, b, c]) := by simp only [loadA, aggA24, sizeA24, hB]; rfl
theorem alloc36 (h : Heap) (f : Nat) : allocA Tryz.prog h f 36 = some (.ptr f 0, newA h f [vi 0, vi 0, vi 0]) := by simp only [allocA, zero36]; rfl
theorem addr36 (D : Nat) {i : Nat} (hi : i < 3) : indexAddrA Tryz.prog 36 (.ptr D 0) (vi i) = some (.ptr D i) := by
  simp only [indexAddrA, und36, sizeA2]
  rw [if_pos (by omega), Int.toNat_natCast, Nat.mul_one, Nat.zero_add]

/-- The first i parts are there. -/
def arr (f : Nat → Int) (i : Nat) : List AV := [if 0 < i then vi (f 0) else vi 0, if 1 < i then vi (f 1) else vi 0, if 2 < i then vi (f 2) else vi 0]
theorem arr_set (f : Nat → Int) : ∀ i, i < 3 → (arr f i).set i (vi (f i)) = arr f (i + 1)
  | 0, _ => rfl
  | 1, _ => rfl
  | 2, _ => rfl
  | i + 3, h => by omega

theorem arr_cell (f : Nat → Int) (i : Nat) : (arr f i).all AV.isCell = true := by
  unfold arr
  simp only [List.all_cons, List.all_nil, Bool.and_true, Bool.and_eq_true]
  refine ⟨?_, ?_, ?_⟩ <;> split <;> rfl

theorem store2 {h : Heap} {D i : Nat} {cs : List AV} (hD : h.get D = some (.cells cs (.rw true) [])) (hi : i < cs.length) (x : Int) : storeA Tryz.prog h 2 (.ptr D i) (vi x) = some (h.put D (some (.cells (cs.set i (vi x)) (.rw true) []))) := by
  have c1 : Nat.ble (i + 1) cs.length = true := by rw [Nat.ble_eq]; omega
  simp only [storeA, AV.cells, sizeA2, List.length_singleton, pokeA, hD, c1, List.all_cons, List.all_nil, AV.isCell, Bool.and_self, cond_true, Heap.drop, lay]
  rfl

theorem rdiv_runs (h : Heap) (b : Nat) (hb : b < 256) : Runs Tryz.prog XT 15 [vi ((b : Int) * 4294967296), vi 1095216660480] h (.ret (vi (share b))) h := by
  have hg : XT 15 = some (ansQ qDiv) := rfl
  have ha : qDiv [vi ((b : Int) * 4294967296), vi 1095216660480] = some (vi (share b)) := by
    unfold qDiv
    dsimp only
    have e : (b : Int) * 4294967296 / 4294967296 = b := by omega
    have h1 : (1095216660480 : Int) = 1095216660480 ∧ 0 ≤ (b : Int) * 4294967296 ∧ (b : Int) * 4294967296 % 4294967296 = 0 ∧ (b : Int) * 4294967296 / 4294967296 < 256 := ⟨rfl, by omega, by omega, by omega⟩
    rw [if_pos h1, e, Int.toNat_natCast]
  exact Runs.told hg (ansQ_of h ha)

theorem rof255 (h : Heap) : ∃ h', Kp h h' ∧ Runs Tryz.prog XT 16 [vi 255] h (.ret (vi 1095216660480)) h' := by
  have e : (255 : Int) * 4294967296 = 1095216660480 := by omega
  obtain ⟨h', k, r⟩ := rof_runs (h := h) (n := 255) (by omega) (by omega)
  rw [e] at r
  exact ⟨h', k, r⟩

theorem byte_in {b : Nat} (h : b < 256) : -2147483648 ≤ (b : Int) ∧ (b : Int) < 2147483648 := by omega

theorem res_cellR {e : Env} {h : Heap} {C : Nat} {v : AV} (h6 : e.get 6 = .ptr C 0) (hl : loadA Tryz.prog h 26 (.ptr C 0) = some v) : resultsA Tryz.prog Tryz.f5.results.toList e h = some [v] := by
  show (match loadA Tryz.prog h 26 (e.get 6) with
    | some v => match resultsA Tryz.prog [] e h with
      | some vs => some (v :: vs)
      | none => none
    | none => none) = _
  rw [h6, hl]
  rfl

set_option maxHeartbeats 4000000 in
theorem ref_runs {h : Heap} {p : AV} {l : List Int} {wd hg u v : Int} (hp : PixIs h p l) (hb : ∀ x, x ∈ l → 0 ≤ x ∧ x < 256) (hu : -9223372036854775808 ≤ u ∧ u < 9223372036854775808) (hv : -9223372036854775808 ≤ v ∧ v < 9223372036854775808) : ∃ h', Kp h h' ∧ Runs Tryz.prog XT 5 [.agg [vi wd, vi hg, p], vi u, vi v] h (.ret (colr l wd hg u v)) h' := by
  suffices hs : ∃ r h', Runs Tryz.prog XT 5 [.agg [vi wd, vi hg, p], vi u, vi v] h r h' ∧ (r = .ret (colr l wd hg u v) ∧ Kp h h') by
    obtain ⟨r, h', h1, rfl, h2⟩ := hs
    exact ⟨h', h2, h1⟩
  refine Runs.ends rfl Tryz.func5 rfl ?_
  generalize hE : Env.init [.agg [vi wd, vi hg, p], vi u, vi v] Tryz.f5.ntmps = e
  have e0 : e.get 0 = .agg [vi wd, vi hg, p] := by subst hE; rfl
  have e1 : e.get 1 = vi u := by subst hE; rfl
  have e2 : e.get 2 = vi v := by subst hE; rfl
  have es : e.sz = 51 := by subst hE; rfl
  clear hE
  refine W.seqR 2 rfl fun K all hK hall => ?_
  simp (maxSteps := 2000000) (disch := first | assumption | simp [es, Env.sz_put]) only [WO_nil, List.getElem?_cons_zero, List.getElem?_cons_succ, WO_cons, WD_nil, WD_cons, List.nil_append, List.append_nil, List.cons_append, sel, nthO, wantedA_free, wantedA_by, putA_into, putA_no, execA, opv, opvs, ofConst, ofScalar, pureR, newR, skipR, builtinA, Env.get_put, binA, arith, Nat.reduceEqDiff, Nat.reduceAdd, reduceIte, bind2, Heap.bump0, isConst, beq_self_eq_true, Bool.false_eq_true, Bool.or_true, Bool.or_false, Bool.not_true, Bool.not_false, undefA, Option.map_some, and_self, bTF, bFT, e0, box_agg, alloc27]
  subst hK; clear hall; try simp only [Then]
  have kp1 : Kp h (newA (newA (h.bump 2) h.next [vi wd, vi hg, p]) (h.next + 1) [vi 0, vi 0, vi 0]) := (((Kp.bump h 2).put (Nat.le_refl _) _).put (Nat.le_succ _) _)
  have hB1 : rdA (newA (newA (h.bump 2) h.next [vi wd, vi hg, p]) (h.next + 1) [vi 0, vi 0, vi 0]) h.next = [vi wd, vi hg, p] := by
    unfold rdA newA
    rw [Heap.get_put, if_neg (by omega), Heap.get_put, if_pos rfl]
  have hC1 : (newA (newA (h.bump 2) h.next [vi wd, vi hg, p]) (h.next + 1) [vi 0, vi 0, vi 0]).get (h.next + 1) = some (.cells [vi 0, vi 0, vi 0] (.rw true) []) := by
    unfold newA
    rw [Heap.get_put, if_pos rfl]
  have hn1 : (newA (newA (h.bump 2) h.next [vi wd, vi hg, p]) (h.next + 1) [vi 0, vi 0, vi 0]).next = h.next + 2 := rfl
  generalize hBdef : h.next = B at hB1 hC1 hn1 kp1 ⊢
  generalize newA (newA (h.bump 2) B [vi wd, vi hg, p]) (B + 1) [vi 0, vi 0, vi 0] = h1 at hB1 hC1 hn1 kp1 ⊢
  have hp1 := hp.ext kp1
  have l24 : loadA Tryz.prog h1 24 (.ptr B 0) = some (.agg [vi wd, vi hg, p]) := load24 hB1
  obtain ⟨h2, kp2, r2⟩ := rright_runs (wd := wd) (hg := hg) hp1
  have hB2 : rdA h2 B = [vi wd, vi hg, p] := by rw [kp2.rd (by omega)]; exact hB1
  have hC2 : h2.get (B + 1) = some (.cells [vi 0, vi 0, vi 0] (.rw true) []) := by rw [kp2.2 (B + 1) (by omega)]; exact hC1
  have hn2 : B + 2 ≤ h2.next := by have := kp2.1; omega
  have kp12 := kp1.trans kp2
  have hp2 := hp1.ext kp2
  refine W.seqA ?_
  refine W.seqR 0 rfl fun K all hK hall => ?_
  simp (maxSteps := 2000000) (disch := first | assumption | simp [es, Env.sz_put]) only [WO_nil, List.getElem?_cons_zero, List.getElem?_cons_succ, WO_cons, WD_nil, WD_cons, List.nil_append, List.append_nil, List.cons_append, sel, nthO, wantedA_free, wantedA_by, putA_into, putA_no, execA, opv, opvs, ofConst, ofScalar, pureR, newR, skipR, builtinA, Env.get_put, binA, arith, Nat.reduceEqDiff, Nat.reduceAdd, reduceIte, bind2, Heap.bump0, isConst, beq_self_eq_true, Bool.false_eq_true, Bool.or_true, Bool.or_false, Bool.not_true, Bool.not_false, undefA, Option.map_some, and_self, bTF, bFT, l24]
  refine CallK.into (r2) (by simp [es, Env.sz_put]) ?_
  simp (maxSteps := 2000000) (disch := first | assumption | simp [es, Env.sz_put]) only [WO_nil, List.getElem?_cons_zero, List.getElem?_cons_succ, WO_cons, WD_nil, WD_cons, List.nil_append, List.append_nil, List.cons_append, sel, nthO, wantedA_free, wantedA_by, putA_into, putA_no, execA, opv, opvs, ofConst, ofScalar, pureR, newR, skipR, builtinA, Env.get_put, binA, arith, Nat.reduceEqDiff, Nat.reduceAdd, reduceIte, bind2, Heap.bump0, isConst, beq_self_eq_true, Bool.false_eq_true, Bool.or_true, Bool.or_false, Bool.not_true, Bool.not_false, undefA, Option.map_some, and_self, bTF, bFT, unA]
  subst hK; clear hall; try simp only [Then]
  by_cases rt : Right wd hg l
  rotate_left
  · have zero : colr l wd hg u v = .agg [vi 0, vi 0, vi 0] := by
      unfold colr smpB
      simp only [rt, if_false]
      rfl
    have hs0 : storeA Tryz.prog h2 26 (.ptr (B + 1) 0) (.agg [vi 0, vi 0, vi 0]) = some (h2.put (B + 1) (some (.cells [vi 0, vi 0, vi 0] (.rw true) []))) := store27 hC2 rfl
    have kp3 : Kp h (h2.put (B + 1) (some (.cells [vi 0, vi 0, vi 0] (.rw true) []))) := kp12.put (by omega) _
    have rd3 : rdA (h2.put (B + 1) (some (.cells [vi 0, vi 0, vi 0] (.rw true) []))) (B + 1) = [vi 0, vi 0, vi 0] := by unfold rdA; rw [Heap.get_put, if_pos rfl]
    refine W.seqT (W.condT (by simp only [opv, ofConst, ofScalar, Env.get_put, Nat.reduceEqDiff, reduceIte, decide_eq_false rt, Bool.not_false]) ?_)
    refine W.seqR 0 rfl fun K all hK hall => ?_
    simp (maxSteps := 2000000) (disch := first | assumption | simp [es, Env.sz_put]) only [WO_nil, List.getElem?_cons_zero, List.getElem?_cons_succ, WO_cons, WD_nil, WD_cons, List.nil_append, List.append_nil, List.cons_append, sel, nthO, wantedA_free, wantedA_by, putA_into, putA_no, execA, opv, opvs, ofConst, ofScalar, pureR, newR, skipR, builtinA, Env.get_put, binA, arith, Nat.reduceEqDiff, Nat.reduceAdd, reduceIte, bind2, Heap.bump0, isConst, beq_self_eq_true, Bool.false_eq_true, Bool.or_true, Bool.or_false, Bool.not_true, Bool.not_false, undefA, Option.map_some, and_self, bTF, bFT, parts, build27, hs0, skipR]
    subst hK; clear hall; try simp only [Then]
    refine W.ret ?_
    simp only [Then, BlockQ, LoopQ, EndsR, Nat.reduceEqDiff, reduceIte]
    refine ⟨_, res_cellR (by simp only [Env.get_put, Nat.reduceEqDiff, reduceIte]) (load27 rd3), ?_, kp3⟩
    rw [zero]
    rfl
  refine W.seqT (W.condF (by simp only [opv, ofConst, ofScalar, Env.get_put, Nat.reduceEqDiff, reduceIte, decide_eq_true rt, Bool.not_true]) ?_)
  refine W.skip ?_
  simp only [Then]
  obtain ⟨at0, at1⟩ := atI_lt rt u v
  have rt' := rt
  obtain ⟨q1, q2, q3, q4, q5⟩ := rt'
  have b1 : 0 ≤ wd * hg := Int.mul_nonneg (by omega) (by omega)
  have b2 : wd * hg ≤ 1024 * hg := Int.mul_le_mul_of_nonneg_right (by omega) (by omega)
  have pv := plcI_lt (a := v) (n := hg) (by omega)
  have pu := plcI_lt (a := u) (n := wd) (by omega)
  have m1 : 0 ≤ plcI v hg * wd := Int.mul_nonneg pv.1 (by omega)
  have m2 : plcI v hg * wd ≤ 1024 * wd := Int.mul_le_mul_of_nonneg_right (by omega) (by omega)
  have x1 : IntKind.i64.wrap (plcI v hg * wd) = plcI v hg * wd := wrap_i (by omega) (by omega)
  have x2 : IntKind.i64.wrap (plcI v hg * wd + plcI u wd) = plcI v hg * wd + plcI u wd := wrap_i (by omega) (by omega)
  have x3 : IntKind.i64.wrap (4 * (plcI v hg * wd + plcI u wd)) = atI wd hg u v := wrap_i (by omega) (by omega)
  have x4 : (l.length : Int) ≤ 4194304 := by
    have : 4 * wd * hg = 4 * (wd * hg) := Int.mul_assoc _ _ _
    omega
  have hBlt : B < h2.next := by omega
  have lW' : ∀ h', Kp h2 h' → loadA Tryz.prog h' 3 (.ptr B 0) = some (vi wd) := fun h' hI => load3 ((hI.rd hBlt).trans hB2) rfl
  have lH' : ∀ h', Kp h2 h' → loadA Tryz.prog h' 3 (.ptr B 1) = some (vi hg) := fun h' hI => load3 ((hI.rd hBlt).trans hB2) rfl
  obtain ⟨ha, ka, ra⟩ := rplace_runs (h := h2) (a := v) (n := hg) hv.1 hv.2 (by omega) (by omega)
  obtain ⟨hb', kb, rb⟩ := rplace_runs (h := ha) (a := u) (n := wd) hu.1 hu.2 (by omega) (by omega)
  have kab := ka.trans kb
  refine W.seqI (fun h' => Kp h2 h') 0 [0, 1, 2, 4, 5, 7, 8, 9, 3, 6, 10, 11, 12, 13] [.pure, .pure, .read, .act, .pure, .read, .pure, .pure, .pure, .read, .act, .pure, .pure, .pure] (by kernel_rfl) (by kernel_rfl) (by kernel_rfl) (by kernel_rfl) rfl rfl fun K all hK hall => ?_
  simp (maxSteps := 4000000) (disch := first | assumption | simp [es, Env.sz_put]) only [WO_nil, List.getElem?_cons_zero, List.getElem?_cons_succ, WO_cons, WD_nil, WD_cons, List.nil_append, List.append_nil, List.cons_append, sel, nthO, wantedA_free, wantedA_by, putA_into, putA_no, execA, opv, opvs, ofConst, ofScalar, pureR, newR, skipR, builtinA, Env.get_put, binA, arith, Nat.reduceEqDiff, Nat.reduceAdd, reduceIte, bind2, Heap.bump0, isConst, beq_self_eq_true, Bool.false_eq_true, Bool.or_true, Bool.or_false, Bool.not_true, Bool.not_false, undefA, Option.map_some, and_self, bTF, bFT, WI_nil, WI_read, WI_pure, WI_make, WI_act, ActI_pure, ActI_make, ActI_act, true_and, sel3, nthK, e2, fa1]
  refine ReadI.into (v :=  vi hg ) (Kp.refl h2 ) (fun h' hI => by simp (maxSteps := 4000000) (disch := first | assumption | simp [es, Env.sz_put]) only [WO_nil, List.getElem?_cons_zero, List.getElem?_cons_succ, WO_cons, WD_nil, WD_cons, List.nil_append, List.append_nil, List.cons_append, sel, nthO, wantedA_free, wantedA_by, putA_into, putA_no, execA, opv, opvs, ofConst, ofScalar, pureR, newR, skipR, builtinA, Env.get_put, binA, arith, Nat.reduceEqDiff, Nat.reduceAdd, reduceIte, bind2, Heap.bump0, isConst, beq_self_eq_true, Bool.false_eq_true, Bool.or_true, Bool.or_false, Bool.not_true, Bool.not_false, undefA, Option.map_some, and_self, bTF, bFT,  fa1, lH' h' hI]) (by simp [AV.beq]) (by simp [es, Env.sz_put]) ?_
  simp (maxSteps := 4000000) (disch := first | assumption | simp [es, Env.sz_put]) only [WO_nil, List.getElem?_cons_zero, List.getElem?_cons_succ, WO_cons, WD_nil, WD_cons, List.nil_append, List.append_nil, List.cons_append, sel, nthO, wantedA_free, wantedA_by, putA_into, putA_no, execA, opv, opvs, ofConst, ofScalar, pureR, newR, skipR, builtinA, Env.get_put, binA, arith, Nat.reduceEqDiff, Nat.reduceAdd, reduceIte, bind2, Heap.bump0, isConst, beq_self_eq_true, Bool.false_eq_true, Bool.or_true, Bool.or_false, Bool.not_true, Bool.not_false, undefA, Option.map_some, and_self, bTF, bFT, WI_nil, WI_read, WI_pure, WI_make, WI_act, ActI_pure, ActI_make, ActI_act, true_and, sel3, nthK, fa0]
  refine ReadI.into (v :=  vi wd ) (Kp.refl h2 ) (fun h' hI => by simp (maxSteps := 4000000) (disch := first | assumption | simp [es, Env.sz_put]) only [WO_nil, List.getElem?_cons_zero, List.getElem?_cons_succ, WO_cons, WD_nil, WD_cons, List.nil_append, List.append_nil, List.cons_append, sel, nthO, wantedA_free, wantedA_by, putA_into, putA_no, execA, opv, opvs, ofConst, ofScalar, pureR, newR, skipR, builtinA, Env.get_put, binA, arith, Nat.reduceEqDiff, Nat.reduceAdd, reduceIte, bind2, Heap.bump0, isConst, beq_self_eq_true, Bool.false_eq_true, Bool.or_true, Bool.or_false, Bool.not_true, Bool.not_false, undefA, Option.map_some, and_self, bTF, bFT,  fa0, lW' h' hI]) (by simp [AV.beq]) (by simp [es, Env.sz_put]) ?_
  simp (maxSteps := 4000000) (disch := first | assumption | simp [es, Env.sz_put]) only [WO_nil, List.getElem?_cons_zero, List.getElem?_cons_succ, WO_cons, WD_nil, WD_cons, List.nil_append, List.append_nil, List.cons_append, sel, nthO, wantedA_free, wantedA_by, putA_into, putA_no, execA, opv, opvs, ofConst, ofScalar, pureR, newR, skipR, builtinA, Env.get_put, binA, arith, Nat.reduceEqDiff, Nat.reduceAdd, reduceIte, bind2, Heap.bump0, isConst, beq_self_eq_true, Bool.false_eq_true, Bool.or_true, Bool.or_false, Bool.not_true, Bool.not_false, undefA, Option.map_some, and_self, bTF, bFT, WI_nil, WI_read, WI_pure, WI_make, WI_act, ActI_pure, ActI_make, ActI_act, true_and, sel3, nthK, e1, fa0]
  refine ReadI.into (v :=  vi wd ) (Kp.refl h2 ) (fun h' hI => by simp (maxSteps := 4000000) (disch := first | assumption | simp [es, Env.sz_put]) only [WO_nil, List.getElem?_cons_zero, List.getElem?_cons_succ, WO_cons, WD_nil, WD_cons, List.nil_append, List.append_nil, List.cons_append, sel, nthO, wantedA_free, wantedA_by, putA_into, putA_no, execA, opv, opvs, ofConst, ofScalar, pureR, newR, skipR, builtinA, Env.get_put, binA, arith, Nat.reduceEqDiff, Nat.reduceAdd, reduceIte, bind2, Heap.bump0, isConst, beq_self_eq_true, Bool.false_eq_true, Bool.or_true, Bool.or_false, Bool.not_true, Bool.not_false, undefA, Option.map_some, and_self, bTF, bFT,  fa0, lW' h' hI]) (by simp [AV.beq]) (by simp [es, Env.sz_put]) ?_
  simp (maxSteps := 4000000) (disch := first | assumption | simp [es, Env.sz_put]) only [WO_nil, List.getElem?_cons_zero, List.getElem?_cons_succ, WO_cons, WD_nil, WD_cons, List.nil_append, List.append_nil, List.cons_append, sel, nthO, wantedA_free, wantedA_by, putA_into, putA_no, execA, opv, opvs, ofConst, ofScalar, pureR, newR, skipR, builtinA, Env.get_put, binA, arith, Nat.reduceEqDiff, Nat.reduceAdd, reduceIte, bind2, Heap.bump0, isConst, beq_self_eq_true, Bool.false_eq_true, Bool.or_true, Bool.or_false, Bool.not_true, Bool.not_false, undefA, Option.map_some, and_self, bTF, bFT, WI_nil, WI_read, WI_pure, WI_make, WI_act, ActI_pure, ActI_make, ActI_act, true_and, sel3, nthK, e2]
  refine CallI.into (ra ) (by simp [es, Env.sz_put]) ( ka) ?_
  simp (maxSteps := 4000000) (disch := first | assumption | simp [es, Env.sz_put]) only [WO_nil, List.getElem?_cons_zero, List.getElem?_cons_succ, WO_cons, WD_nil, WD_cons, List.nil_append, List.append_nil, List.cons_append, sel, nthO, wantedA_free, wantedA_by, putA_into, putA_no, execA, opv, opvs, ofConst, ofScalar, pureR, newR, skipR, builtinA, Env.get_put, binA, arith, Nat.reduceEqDiff, Nat.reduceAdd, reduceIte, bind2, Heap.bump0, isConst, beq_self_eq_true, Bool.false_eq_true, Bool.or_true, Bool.or_false, Bool.not_true, Bool.not_false, undefA, Option.map_some, and_self, bTF, bFT, WI_nil, WI_read, WI_pure, WI_make, WI_act, ActI_pure, ActI_make, ActI_act, true_and, sel3, nthK, x1]
  refine CallI.into (rb ) (by simp [es, Env.sz_put]) ( kab) ?_
  simp (maxSteps := 4000000) (disch := first | assumption | simp [es, Env.sz_put]) only [WO_nil, List.getElem?_cons_zero, List.getElem?_cons_succ, WO_cons, WD_nil, WD_cons, List.nil_append, List.append_nil, List.cons_append, sel, nthO, wantedA_free, wantedA_by, putA_into, putA_no, execA, opv, opvs, ofConst, ofScalar, pureR, newR, skipR, builtinA, Env.get_put, binA, arith, Nat.reduceEqDiff, Nat.reduceAdd, reduceIte, bind2, Heap.bump0, isConst, beq_self_eq_true, Bool.false_eq_true, Bool.or_true, Bool.or_false, Bool.not_true, Bool.not_false, undefA, Option.map_some, and_self, bTF, bFT, WI_nil, WI_read, WI_pure, WI_make, WI_act, ActI_pure, ActI_make, ActI_act, true_and, sel3, nthK, x2, x3]
  subst hK; clear hall; try simp only [Then]
  rcases hp with ⟨rfl, rfl⟩ | ⟨b, cap, rfl, hcut0, hb0, hcap⟩
  · exfalso
    simp only [List.length_nil] at at1
    omega
  have hbB : b < B := by omega
  obtain ⟨k, hk⟩ : ∃ k : Nat, (k : Int) = atI wd hg u v := ⟨(atI wd hg u v).toNat, by omega⟩
  have hk2 : (atI wd hg u v).toNat = k := by omega
  have kpb : Kp h hb' := kp12.trans kab
  have hB3 : rdA hb' B = [vi wd, vi hg, .slice b 0 l.length cap true 1] := by rw [kab.rd hBlt]; exact hB2
  have hC3 : hb'.get (B + 1) = some (.cells [vi 0, vi 0, vi 0] (.rw true) []) := by rw [kab.2 (B + 1) (by omega)]; exact hC2
  have hn3 : B + 2 ≤ hb'.next := by have := kab.1; omega
  have cv : ∀ (h : Heap) (fr : Nat) (n : Nat), n < 256 → convA Tryz.prog h fr 5 3 (.int .u8 (n : Int)) = some (vi n, h) := fun h fr n hn => by
    have u3 : Tryz.prog.underlying 3 = some (.int .i64) := by kernel_rfl
    have u5 : Tryz.prog.underlying 5 = some (.int .u8) := by kernel_rfl
    simp only [convA, u3, u5]
    rw [wrap_i (by omega) (by omega)]
  have ix : ∀ i : Nat, i < 3 → indexAddrA Tryz.prog 22 (.slice b 0 l.length cap true 1) (vi (atI wd hg u v + i)) = some (.ptr b (k + i)) := fun i hi => by
    simp only [indexAddrA, und22, sizeA5]
    rw [show Nat.beq 1 1 = true from rfl, cond_true, if_pos (by omega), show (atI wd hg u v + (i : Int)).toNat = k + i by omega, Nat.zero_add, Nat.mul_one]
  have ld : ∀ h' : Heap, Kp h h' → ∀ i : Nat, i < 3 → loadA Tryz.prog h' 5 (.ptr b (k + i)) = some (.int .u8 (smpB l wd hg u v i : Int)) := fun h' hI i hi => by
    have := cut_byte hcut0 (i := k + i) (by omega)
    simp only [loadA, aggA5, hI.rd hb0]
    rw [show k + i = 0 + (k + i) by omega, this]
    have hs : smpB l wd hg u v i = (l.getD (k + i) 0).toNat := by
      unfold smpB
      rw [if_pos rt, hk2]
    rw [hs]
    have : 0 ≤ l.getD (k + i) 0 := by
      rw [List.getD_eq_getElem?_getD]
      cases hx : l[k + i]? with
      | none => simp
      | some y =>
        have := hb y (List.mem_of_getElem? hx)
        simp only [Option.getD_some]
        omega
    rw [Int.toNat_of_nonneg this]
  have hlt : ∀ i, smpB l wd hg u v i < 256 := smpB_lt hb wd hg u v
  obtain ⟨sm, hsm⟩ : ∃ sm : Nat → Nat, (fun i => smpB l wd hg u v i) = sm := ⟨_, rfl⟩
  have hsm : ∀ i, smpB l wd hg u v i = sm i := fun i => congrFun hsm i
  have hcol : colr l wd hg u v = .agg [vi (share (sm 0)), vi (share (sm 1)), vi (share (sm 2))] := by
    unfold colr
    rw [hsm, hsm, hsm]
  simp only [hsm] at ld hlt
  rw [hcol]
  clear hcol hsm
  obtain ⟨f, hf⟩ : ∃ f : Nat → Int, (fun i => (share (sm i) : Int)) = f := ⟨_, rfl⟩
  have hf : ∀ i, (share (sm i) : Int) = f i := fun i => congrFun hf i
  simp only [hf]
  clear ra rb kab ka kb lW' lH' r2 l24 kp2 kp1 hp1 hp2 hB1 hC1 hB2 hC2 x1 x2 x3
  generalize atI wd hg u v = a at hk hk2 at0 at1 ix ⊢
  refine W.seqR 1 rfl fun K all hK hall => ?_
  simp (maxSteps := 2000000) (disch := first | assumption | simp [es, Env.sz_put]) only [WO_nil, List.getElem?_cons_zero, List.getElem?_cons_succ, WO_cons, WD_nil, WD_cons, List.nil_append, List.append_nil, List.cons_append, sel, nthO, wantedA_free, wantedA_by, putA_into, putA_no, execA, opv, opvs, ofConst, ofScalar, pureR, newR, skipR, builtinA, Env.get_put, binA, arith, Nat.reduceEqDiff, Nat.reduceAdd, reduceIte, bind2, Heap.bump0, isConst, beq_self_eq_true, Bool.false_eq_true, Bool.or_true, Bool.or_false, Bool.not_true, Bool.not_false, undefA, Option.map_some, and_self, bTF, bFT, alloc36]
  subst hK; clear hall; try simp only [Then]
  have kpd : Kp h (newA (hb'.bump 1) hb'.next [vi 0, vi 0, vi 0]) := (kpb.trans (Kp.bump hb' 1)).put (by have := kpb.1; omega) _
  have hD4 : (newA (hb'.bump 1) hb'.next [vi 0, vi 0, vi 0]).get hb'.next = some (.cells (arr f 0) (.rw true) []) := by
    unfold newA
    rw [Heap.get_put, if_pos rfl]
    rfl
  have hB4 : rdA (newA (hb'.bump 1) hb'.next [vi 0, vi 0, vi 0]) B = [vi wd, vi hg, .slice b 0 l.length cap true 1] := by
    unfold rdA newA
    rw [Heap.get_put, if_neg (by omega)]
    exact hB3
  have hC4 : (newA (hb'.bump 1) hb'.next [vi 0, vi 0, vi 0]).get (B + 1) = some (.cells [vi 0, vi 0, vi 0] (.rw true) []) := by
    unfold newA
    rw [Heap.get_put, if_neg (by omega)]
    exact hC3
  have hn4 : hb'.next < (newA (hb'.bump 1) hb'.next [vi 0, vi 0, vi 0]).next := by show hb'.next < hb'.next + 1; omega
  have hDB : B + 2 ≤ hb'.next := hn3
  have hDh : h.next ≤ hb'.next := by omega
  generalize hb'.next = D at hD4 hn4 hDB hDh kpd hB4 hC4
  generalize newA (hb'.bump 1) D [vi 0, vi 0, vi 0] = h4 at hD4 hn4 kpd hB4 hC4
  refine W.seqA ?_
  refine W.seqR 0 rfl fun K all hK hall => ?_
  simp (maxSteps := 2000000) (disch := first | assumption | simp [es, Env.sz_put]) only [WO_nil, List.getElem?_cons_zero, List.getElem?_cons_succ, WO_cons, WD_nil, WD_cons, List.nil_append, List.append_nil, List.cons_append, sel, nthO, wantedA_free, wantedA_by, putA_into, putA_no, execA, opv, opvs, ofConst, ofScalar, pureR, newR, skipR, builtinA, Env.get_put, binA, arith, Nat.reduceEqDiff, Nat.reduceAdd, reduceIte, bind2, Heap.bump0, isConst, beq_self_eq_true, Bool.false_eq_true, Bool.or_true, Bool.or_false, Bool.not_true, Bool.not_false, undefA, Option.map_some, and_self, bTF, bFT]
  subst hK; clear hall; try simp only [Then]
  refine W.seqLoop (fun n s => ∃ i : Nat, n = 3 - i ∧ i ≤ 3 ∧ Kp h s.heap ∧ D < s.heap.next ∧ s.heap.get D = some (.cells (arr f i) (.rw true) []) ∧ rdA s.heap B = [vi wd, vi hg, .slice b 0 l.length cap true 1] ∧ s.heap.get (B + 1) = some (.cells [vi 0, vi 0, vi 0] (.rw true) []) ∧ s.env.sz = 51 ∧ s.env.get 3 = .ptr B 0 ∧ s.env.get 6 = .ptr (B + 1) 0 ∧ s.env.get 7 = vi a ∧ s.env.get 8 = .ptr D 0 ∧ s.env.get 9 = vi i) 3 ⟨0, rfl, by omega, kpd, hn4, hD4, hB4, hC4, ?_, ?_, ?_, ?_, ?_, ?_⟩ ?_
  · simp only [Env.sz_put, es]
  · simp only [Env.get_put, Nat.reduceEqDiff, reduceIte]
  · simp only [Env.get_put, Nat.reduceEqDiff, reduceIte]
  · simp only [Env.get_put, Nat.reduceEqDiff, reduceIte]
  · simp only [Env.get_put, Nat.reduceEqDiff, reduceIte]
  · simp only [Env.get_put, Nat.reduceEqDiff, reduceIte]; rfl
  clear e0 e1 e2 es e hD4 hn4 kpd hB4 hC4 h4
  rintro n ⟨e, h5⟩ ⟨i, rfl, hi, kp5, hn5, hD5, hB5, hC5, es, e3, e6, e7, e8, e9⟩
  dsimp only at kp5 hn5 hD5 hB5 hC5 es e3 e6 e7 e8 e9
  refine W.seqA ?_
  refine W.seqR 0 rfl fun K all hK hall => ?_
  simp (maxSteps := 2000000) (disch := first | assumption | simp [es, Env.sz_put]) only [WO_nil, List.getElem?_cons_zero, List.getElem?_cons_succ, WO_cons, WD_nil, WD_cons, List.nil_append, List.append_nil, List.cons_append, sel, nthO, wantedA_free, wantedA_by, putA_into, putA_no, execA, opv, opvs, ofConst, ofScalar, pureR, newR, skipR, builtinA, Env.get_put, binA, arith, Nat.reduceEqDiff, Nat.reduceAdd, reduceIte, bind2, Heap.bump0, isConst, beq_self_eq_true, Bool.false_eq_true, Bool.or_true, Bool.or_false, Bool.not_true, Bool.not_false, undefA, Option.map_some, and_self, bTF, bFT, e9]
  subst hK; clear hall; try simp only [Then]
  by_cases c2 : i < 3
  · have c2' : (i : Int) < 3 := by omega
    refine W.seqT (W.condT (by simp only [opv, ofConst, ofScalar, Env.get_put, Nat.reduceEqDiff, reduceIte, c2', decide_true]) ?_)
    refine W.skip ?_
    simp only [Then]
    have l22 : loadA Tryz.prog (h5.bump 14) 22 (.ptr B 2) = some (.slice b 0 l.length cap true 1) := load22 hB5 rfl
    have ixi := ix i c2
    have ldi := ld (h5.bump 14) (kp5.trans (Kp.bump h5 14)) i c2
    have w1 : IntKind.i64.wrap (a + (i : Int)) = a + (i : Int) := wrap_i (by omega) (by omega)
    have w4 : IntKind.i64.wrap ((i : Int) + 1) = ((i + 1 : Nat) : Int) := by rw [wrap_i (by omega) (by omega)]; rfl
    have lt := hlt i
    have fi := hf i
    obtain ⟨h6, k6, r6⟩ := rof_runs (h := h5.bump 14) (n := (sm i : Int)) (byte_in lt).1 (byte_in lt).2
    obtain ⟨h7, k7, r7⟩ := rof255 h6
    have r8 := rdiv_runs h7 (sm i) lt
    rw [fi] at r8
    have k57 : Kp h5 h7 := ((Kp.bump h5 14).trans k6).trans k7
    have hD7 : h7.get D = some (.cells (arr f i) (.rw true) []) := by rw [k57.2 D hn5]; exact hD5
    have st := store2 hD7 (i := i) (show i < (arr f i).length from c2) (f i)
    rw [arr_set f i c2] at st
    have cvi : ∀ fr : Nat, convA Tryz.prog (h5.bump 14) fr 5 3 (.int .u8 (sm i : Int)) = some (vi (sm i), h5.bump 14) := fun fr => cv _ fr _ lt
    have ai := addr36 D c2
    refine W.seqT (W.blockT ?_)
    refine W.reg 14 rfl fun K all hK hall => ?_
    simp (maxSteps := 2000000) (disch := first | assumption | simp [es, Env.sz_put]) only [WO_nil, List.getElem?_cons_zero, List.getElem?_cons_succ, WO_cons, WD_nil, WD_cons, List.nil_append, List.append_nil, List.cons_append, sel, nthO, wantedA_free, wantedA_by, putA_into, putA_no, execA, opv, opvs, ofConst, ofScalar, pureR, newR, skipR, builtinA, Env.get_put, binA, arith, Nat.reduceEqDiff, Nat.reduceAdd, reduceIte, bind2, Heap.bump0, isConst, beq_self_eq_true, Bool.false_eq_true, Bool.or_true, Bool.or_false, Bool.not_true, Bool.not_false, undefA, Option.map_some, and_self, bTF, bFT, e3, e7, e9, fa2, l22, w1, ixi, ldi, newR, cvi]
    refine CallK.into (r6) (by simp [es, Env.sz_put]) ?_
    simp (maxSteps := 2000000) (disch := first | assumption | simp [es, Env.sz_put]) only [WO_nil, List.getElem?_cons_zero, List.getElem?_cons_succ, WO_cons, WD_nil, WD_cons, List.nil_append, List.append_nil, List.cons_append, sel, nthO, wantedA_free, wantedA_by, putA_into, putA_no, execA, opv, opvs, ofConst, ofScalar, pureR, newR, skipR, builtinA, Env.get_put, binA, arith, Nat.reduceEqDiff, Nat.reduceAdd, reduceIte, bind2, Heap.bump0, isConst, beq_self_eq_true, Bool.false_eq_true, Bool.or_true, Bool.or_false, Bool.not_true, Bool.not_false, undefA, Option.map_some, and_self, bTF, bFT]
    refine CallK.into (r7) (by simp [es, Env.sz_put]) ?_
    simp (maxSteps := 2000000) (disch := first | assumption | simp [es, Env.sz_put]) only [WO_nil, List.getElem?_cons_zero, List.getElem?_cons_succ, WO_cons, WD_nil, WD_cons, List.nil_append, List.append_nil, List.cons_append, sel, nthO, wantedA_free, wantedA_by, putA_into, putA_no, execA, opv, opvs, ofConst, ofScalar, pureR, newR, skipR, builtinA, Env.get_put, binA, arith, Nat.reduceEqDiff, Nat.reduceAdd, reduceIte, bind2, Heap.bump0, isConst, beq_self_eq_true, Bool.false_eq_true, Bool.or_true, Bool.or_false, Bool.not_true, Bool.not_false, undefA, Option.map_some, and_self, bTF, bFT]
    refine CallK.into (r8) (by simp [es, Env.sz_put]) ?_
    simp (maxSteps := 2000000) (disch := first | assumption | simp [es, Env.sz_put]) only [WO_nil, List.getElem?_cons_zero, List.getElem?_cons_succ, WO_cons, WD_nil, WD_cons, List.nil_append, List.append_nil, List.cons_append, sel, nthO, wantedA_free, wantedA_by, putA_into, putA_no, execA, opv, opvs, ofConst, ofScalar, pureR, newR, skipR, builtinA, Env.get_put, binA, arith, Nat.reduceEqDiff, Nat.reduceAdd, reduceIte, bind2, Heap.bump0, isConst, beq_self_eq_true, Bool.false_eq_true, Bool.or_true, Bool.or_false, Bool.not_true, Bool.not_false, undefA, Option.map_some, and_self, bTF, bFT, e8, ai, st, skipR]
    subst hK; clear hall; try simp only [Then]
    simp only [Then, BlockQ, LoopQ, EndsR, Nat.reduceEqDiff, reduceIte]
    refine W.reg 0 rfl fun K all hK hall => ?_
    simp (maxSteps := 2000000) (disch := first | assumption | simp [es, Env.sz_put]) only [WO_nil, List.getElem?_cons_zero, List.getElem?_cons_succ, WO_cons, WD_nil, WD_cons, List.nil_append, List.append_nil, List.cons_append, sel, nthO, wantedA_free, wantedA_by, putA_into, putA_no, execA, opv, opvs, ofConst, ofScalar, pureR, newR, skipR, builtinA, Env.get_put, binA, arith, Nat.reduceEqDiff, Nat.reduceAdd, reduceIte, bind2, Heap.bump0, isConst, beq_self_eq_true, Bool.false_eq_true, Bool.or_true, Bool.or_false, Bool.not_true, Bool.not_false, undefA, Option.map_some, and_self, bTF, bFT, e9, w4]
    subst hK; clear hall; try simp only [Then]
    simp only [Then, BlockQ, LoopQ, EndsR, Nat.reduceEqDiff, reduceIte]
    refine ⟨3 - (i + 1), by omega, i + 1, rfl, by omega, (kp5.trans k57).put hDh _, ?_, ?_, ?_, ?_, ?_, ?_, ?_, ?_, ?_, ?_⟩
    · show D < h7.next
      exact Nat.lt_of_lt_of_le hn5 k57.1
    · rw [Heap.get_put, if_pos rfl]
    · unfold rdA
      rw [Heap.get_put, if_neg (by omega)]
      have := k57.rd (b := B) (by have := hn5; omega)
      rw [hB5] at this
      exact this
    · rw [Heap.get_put, if_neg (by omega), k57.2 (B + 1) (by omega)]
      exact hC5
    · simp only [Env.sz_put, es]
    · simp only [Env.get_put, Nat.reduceEqDiff, reduceIte, e3]
    · simp only [Env.get_put, Nat.reduceEqDiff, reduceIte, e6]
    · simp only [Env.get_put, Nat.reduceEqDiff, reduceIte, e7]
    · simp only [Env.get_put, Nat.reduceEqDiff, reduceIte, e8]
    · simp only [Env.get_put, Nat.reduceEqDiff, reduceIte]
  · have c2' : ¬ (i : Int) < 3 := by omega
    obtain rfl : i = 3 := by omega
    refine W.seqT (W.condF (by simp only [opv, ofConst, ofScalar, Env.get_put, Nat.reduceEqDiff, reduceIte, c2', decide_false]) ?_)
    refine W.exit ?_
    simp only [Then, BlockQ, LoopQ, EndsR, Nat.reduceEqDiff, reduceIte]
    have rdD : rdA h5 D = [vi (f 0), vi (f 1), vi (f 2)] := by unfold rdA; rw [hD5]; rfl
    have g0 : loadA Tryz.prog h5 2 (.ptr D 0) = some (vi (f 0)) := load2 rdD rfl
    have g1 : loadA Tryz.prog h5 2 (.ptr D 1) = some (vi (f 1)) := load2 rdD rfl
    have g2 : loadA Tryz.prog h5 2 (.ptr D 2) = some (vi (f 2)) := load2 rdD rfl
    have a0 : indexAddrA Tryz.prog 36 (.ptr D 0) (.int .i64 0) = some (.ptr D 0) := addr36 D (i := 0) (by omega)
    have a1 : indexAddrA Tryz.prog 36 (.ptr D 0) (.int .i64 1) = some (.ptr D 1) := addr36 D (i := 1) (by omega)
    have a2 : indexAddrA Tryz.prog 36 (.ptr D 0) (.int .i64 2) = some (.ptr D 2) := addr36 D (i := 2) (by omega)
    have st : storeA Tryz.prog h5 26 (.ptr (B + 1) 0) (.agg [vi (f 0), vi (f 1), vi (f 2)]) = some (h5.put (B + 1) (some (.cells [vi (f 0), vi (f 1), vi (f 2)] (.rw true) []))) := store27 hC5 rfl
    have kp6 : Kp h (h5.put (B + 1) (some (.cells [vi (f 0), vi (f 1), vi (f 2)] (.rw true) []))) := kp5.put (by omega) _
    have rd6 : rdA (h5.put (B + 1) (some (.cells [vi (f 0), vi (f 1), vi (f 2)] (.rw true) []))) (B + 1) = [vi (f 0), vi (f 1), vi (f 2)] := by unfold rdA; rw [Heap.get_put, if_pos rfl]
    refine W.seqR 0 rfl fun K all hK hall => ?_
    simp (maxSteps := 2000000) (disch := first | assumption | simp [es, Env.sz_put]) only [WO_nil, List.getElem?_cons_zero, List.getElem?_cons_succ, WO_cons, WD_nil, WD_cons, List.nil_append, List.append_nil, List.cons_append, sel, nthO, wantedA_free, wantedA_by, putA_into, putA_no, execA, opv, opvs, ofConst, ofScalar, pureR, newR, skipR, builtinA, Env.get_put, binA, arith, Nat.reduceEqDiff, Nat.reduceAdd, reduceIte, bind2, Heap.bump0, isConst, beq_self_eq_true, Bool.false_eq_true, Bool.or_true, Bool.or_false, Bool.not_true, Bool.not_false, undefA, Option.map_some, and_self, bTF, bFT, e6, e8, a0, a1, a2, g0, g1, g2, parts, build27v, st, skipR]
    subst hK; clear hall; try simp only [Then]
    refine W.ret ?_
    simp only [Then, BlockQ, LoopQ, EndsR, Nat.reduceEqDiff, reduceIte]
    refine ⟨_, res_cellR (by simp only [Env.get_put, Nat.reduceEqDiff, reduceIte, e6]) (load27 rd6), ?_, kp6⟩
    rfl

end Go.Proofs.YtahdafekballcaaGreat.AM
