/-
  The colours of a texture: the walk of the law on the document's samples. Conditions: none.
-/
import Derived.Test.YtahdafekballcaaGreatSy3
namespace Go.Proofs.YtahdafekballcaaGreat.AM
open Go Go.Proofs
set_option linter.unusedVariables false
set_option linter.unusedSimpArgs false

theorem fb0 (B : Nat) : fieldAddrA Tryz.prog 26 (.ptr B 0) 0 = some (.ptr B 0) := by kernel_rfl
theorem fb1 (B : Nat) : fieldAddrA Tryz.prog 26 (.ptr B 0) 1 = some (.ptr B 1) := by kernel_rfl
theorem fb2 (B : Nat) : fieldAddrA Tryz.prog 26 (.ptr B 0) 2 = some (.ptr B 2) := by kernel_rfl

theorem guard27 : Tryz.prog.eqGuardType Tryz.prog.depth 26 = false := by kernel_rfl

theorem eqv0 (a b c : Int) : ∃ q : Int → Int → Bool, (∀ x, q x x = true) ∧ eqD Tryz.prog 6 26 (.agg [vi a, vi b, vi c]) (.agg [vi a, vi b, vi c]) = (match some (q a a) with
    | some true => (match some (q b b) with
      | some true => (match some (q c c) with
        | some true => some true
        | r => r)
      | r => r)
    | r => r) := ⟨fun x y => x == y, fun x => by simp, by kernel_rfl⟩

theorem eqdv (a b c : Int) : eqD Tryz.prog 6 26 (.agg [vi a, vi b, vi c]) (.agg [vi a, vi b, vi c]) = some true := by
  obtain ⟨q, h1, h2⟩ := eqv0 a b c
  rw [h2]
  simp only [h1]

theorem PixIs.beq {h : Heap} {p : AV} {l : List Int} (x : PixIs h p l) (a b : Int) : AV.beq (.agg [vi a, vi b, p]) (.agg [vi a, vi b, p]) = true := by
  rcases x with ⟨rfl, rfl⟩ | ⟨b', cap, rfl, h1, h2, h3⟩ <;> simp [AV.beq, AV.beqs]

theorem share_in {b : Nat} (h : b < 256) : (share b : Int) ≥ 0 ∧ (share b : Int) ≤ 4294967296 := by
  have := share_small b h
  omega

set_option maxHeartbeats 8000000 in
theorem law_runs {h : Heap} {p : AV} {l : List Int} {wd hg u v : Int} (hp : PixIs h p l) (hb : ∀ x, x ∈ l → 0 ≤ x ∧ x < 256) (hu : -9223372036854775808 ≤ u ∧ u < 9223372036854775808) (hv : -9223372036854775808 ≤ v ∧ v < 9223372036854775808) : ∃ h', Runs Tryz.prog XT 3 [.agg [vi wd, vi hg, p], vi u, vi v] h (.ret (.bool true)) h' := by
  suffices hs : ∃ r h', Runs Tryz.prog XT 3 [.agg [vi wd, vi hg, p], vi u, vi v] h r h' ∧ r = .ret (.bool true) by
    obtain ⟨r, h', h1, rfl⟩ := hs
    exact ⟨h', h1⟩
  refine Runs.ends rfl Tryz.func3 rfl ?_
  generalize hE : Env.init [.agg [vi wd, vi hg, p], vi u, vi v] Tryz.f3.ntmps = e
  have e0 : e.get 0 = .agg [vi wd, vi hg, p] := by subst hE; rfl
  have e1 : e.get 1 = vi u := by subst hE; rfl
  have e2 : e.get 2 = vi v := by subst hE; rfl
  have es : e.sz = 51 := by subst hE; rfl
  clear hE
  refine W.seqR 2 rfl fun K all hK hall => ?_
  simp (maxSteps := 2000000) (disch := first | assumption | simp [es, Env.sz_put]) only [WO_nil, List.getElem?_cons_zero, List.getElem?_cons_succ, WO_cons, WD_nil, WD_cons, List.nil_append, List.append_nil, List.cons_append, sel, nthO, wantedA_free, wantedA_by, putA_into, putA_no, execA, opv, opvs, ofConst, ofScalar, pureR, newR, skipR, builtinA, Env.get_put, binA, arith, Nat.reduceEqDiff, Nat.reduceAdd, reduceIte, bind2, Heap.bump0, isConst, beq_self_eq_true, Bool.false_eq_true, Bool.or_true, Bool.or_false, Bool.not_true, Bool.not_false, undefA, Option.map_some, and_self, bTF, bFT, e0, box_agg]
  subst hK; clear hall; try simp only [Then]
  have kp1 : Kp h (newA (h.bump 2) h.next [vi wd, vi hg, p]) := (Kp.bump h 2).put (Nat.le_refl _) _
  have hB1 : rdA (newA (h.bump 2) h.next [vi wd, vi hg, p]) h.next = [vi wd, vi hg, p] := rd_new _ _ _
  have hn1 : h.next < (newA (h.bump 2) h.next [vi wd, vi hg, p]).next := by show h.next < h.next + 2; omega
  generalize h.next = B at hB1 hn1 kp1
  generalize newA (h.bump 2) B [vi wd, vi hg, p] = h1 at hB1 hn1 kp1
  have hp1 := hp.ext kp1
  obtain ⟨h2, kp2, r2⟩ := sample_runs (h := h1.bump 6) (wd := wd) (hg := hg) (u := u) (v := v) (hp1.ext (Kp.bump h1 6)) hb
  have kp12 : Kp h1 h2 := (Kp.bump h1 6).trans kp2
  have l24 : loadA Tryz.prog (h1.bump 6) 24 (.ptr B 0) = some (.agg [vi wd, vi hg, p]) := load24 hB1
  have z0 := share_in (smpB_lt hb wd hg u v 0)
  have z1 := share_in (smpB_lt hb wd hg u v 1)
  have z2 := share_in (smpB_lt hb wd hg u v 2)
  have hcol : ∃ y0 y1 y2 : Int, colr l wd hg u v = .agg [vi y0, vi y1, vi y2] ∧ (y0 ≥ 0 ∧ y0 ≤ 4294967296) ∧ (y1 ≥ 0 ∧ y1 ≤ 4294967296) ∧ (y2 ≥ 0 ∧ y2 ≤ 4294967296) := ⟨_, _, _, rfl, z0, z1, z2⟩
  clear z0 z1 z2
  obtain ⟨y0, y1, y2, hcol, ⟨n0, n1⟩, ⟨n2, n3⟩, ⟨n4, n5⟩⟩ := hcol
  rw [hcol] at r2
  have hnn : h1.next + 4 < h2.next := by
    have h3 : h1.next + 6 ≤ h2.next := kp2.1
    omega
  have hst : storeA Tryz.prog (newA h2 (h1.next + 4) [vi 0, vi 0, vi 0]) 26 (.ptr (h1.next + 4) 0) (.agg [vi y0, vi y1, vi y2]) = some ((newA h2 (h1.next + 4) [vi 0, vi 0, vi 0]).put (h1.next + 4) (some (.cells [vi y0, vi y1, vi y2] (.rw true) []))) := store27 (by unfold newA; rw [Heap.get_put, if_pos rfl]) rfl
  refine W.seqR 6 rfl fun K all hK hall => ?_
  simp (maxSteps := 2000000) (disch := first | assumption | simp [es, Env.sz_put]) only [WO_nil, List.getElem?_cons_zero, List.getElem?_cons_succ, WO_cons, WD_nil, WD_cons, List.nil_append, List.append_nil, List.cons_append, sel, nthO, wantedA_free, wantedA_by, putA_into, putA_no, execA, opv, opvs, ofConst, ofScalar, pureR, newR, skipR, builtinA, Env.get_put, binA, arith, Nat.reduceEqDiff, Nat.reduceAdd, reduceIte, bind2, Heap.bump0, isConst, beq_self_eq_true, Bool.false_eq_true, Bool.or_true, Bool.or_false, Bool.not_true, Bool.not_false, undefA, Option.map_some, and_self, bTF, bFT, e1, e2, l24]
  refine CallK.into (r2) (by simp [es, Env.sz_put]) ?_
  simp (maxSteps := 2000000) (disch := first | assumption | simp [es, Env.sz_put]) only [WO_nil, List.getElem?_cons_zero, List.getElem?_cons_succ, WO_cons, WD_nil, WD_cons, List.nil_append, List.append_nil, List.cons_append, sel, nthO, wantedA_free, wantedA_by, putA_into, putA_no, execA, opv, opvs, ofConst, ofScalar, pureR, newR, skipR, builtinA, Env.get_put, binA, arith, Nat.reduceEqDiff, Nat.reduceAdd, reduceIte, bind2, Heap.bump0, isConst, beq_self_eq_true, Bool.false_eq_true, Bool.or_true, Bool.or_false, Bool.not_true, Bool.not_false, undefA, Option.map_some, and_self, bTF, bFT, alloc27, hst, skipR]
  subst hK; clear hall; try simp only [Then]
  have kp3 : Kp h1 ((newA h2 (h1.next + 4) [vi 0, vi 0, vi 0]).put (h1.next + 4) (some (.cells [vi y0, vi y1, vi y2] (.rw true) []))) := (kp12.put (Nat.le_add_right _ _) _).put (Nat.le_add_right _ _) _
  have hC3 : rdA ((newA h2 (h1.next + 4) [vi 0, vi 0, vi 0]).put (h1.next + 4) (some (.cells [vi y0, vi y1, vi y2] (.rw true) []))) (h1.next + 4) = [vi y0, vi y1, vi y2] := by
    unfold rdA
    rw [Heap.get_put, if_pos rfl]
  have hCn : h1.next + 4 < ((newA h2 (h1.next + 4) [vi 0, vi 0, vi 0]).put (h1.next + 4) (some (.cells [vi y0, vi y1, vi y2] (.rw true) []))).next := hnn
  generalize h1.next + 4 = C at hC3 hCn kp3
  generalize (newA h2 C [vi 0, vi 0, vi 0]).put C (some (.cells [vi y0, vi y1, vi y2] (.rw true) [])) = h3 at hC3 hCn kp3
  have hp3 := hp1.ext kp3
  have hB3 : rdA h3 B = [vi wd, vi hg, p] := by rw [kp3.rd hn1]; exact hB1
  have hBn3 : B < h3.next := Nat.lt_of_lt_of_le hn1 kp3.1
  have g24 : ∀ h', Kp h3 h' → loadA Tryz.prog h' 24 (.ptr B 0) = some (.agg [vi wd, vi hg, p]) := fun h' hI => load24 ((hI.rd hBn3).trans hB3)
  have g27 : ∀ h', Kp h3 h' → loadA Tryz.prog h' 26 (.ptr C 0) = some (.agg [vi y0, vi y1, vi y2]) := fun h' hI => load27 ((hI.rd hCn).trans hC3)
  have d0 : ∀ h', Kp h3 h' → loadA Tryz.prog h' 2 (.ptr C 0) = some (vi y0) := fun h' hI => load2 ((hI.rd hCn).trans hC3) rfl
  have d1 : ∀ h', Kp h3 h' → loadA Tryz.prog h' 2 (.ptr C 1) = some (vi y1) := fun h' hI => load2 ((hI.rd hCn).trans hC3) rfl
  have d2 : ∀ h', Kp h3 h' → loadA Tryz.prog h' 2 (.ptr C 2) = some (vi y2) := fun h' hI => load2 ((hI.rd hCn).trans hC3) rfl
  have hbeq := hp3.beq wd hg
  obtain ⟨h4, k4, r4⟩ := ref_runs (wd := wd) (hg := hg) (u := u) (v := v) hp3 hb hu hv
  rw [hcol] at r4
  clear hst r2 kp12 kp2 l24 hp1 kp1 hnn
  refine W.seqI (fun h' => Kp h3 h') 0 [0, 1, 2, 3, 4, 5, 6, 7, 8, 9, 10, 11, 12, 13, 14, 15, 16, 17, 18, 19, 20, 21, 22, 23, 24, 25, 26, 27, 28, 29, 30, 31, 32, 33, 34, 35, 36, 37, 38, 39] [.read, .read, .pure, .pure, .act, .pure, .pure, .pure, .read, .pure, .pure, .pure, .pure, .read, .pure, .pure, .pure, .pure, .read, .pure, .pure, .pure, .pure, .read, .pure, .pure, .pure, .pure, .read, .pure, .pure, .pure, .pure, .read, .pure, .pure, .pure, .act, .pure, .pure] (by kernel_rfl) (by kernel_rfl) (by kernel_rfl) (by kernel_rfl) rfl rfl fun K all hK hall => ?_
  have g6 : (all[6]?).bind (·.dst) = some 18 := by subst hall; rfl
  have g11 : (all[11]?).bind (·.dst) = some 23 := by subst hall; rfl
  have g16 : (all[16]?).bind (·.dst) = some 28 := by subst hall; rfl
  have g21 : (all[21]?).bind (·.dst) = some 33 := by subst hall; rfl
  have g26 : (all[26]?).bind (·.dst) = some 38 := by subst hall; rfl
  have g31 : (all[31]?).bind (·.dst) = some 43 := by subst hall; rfl
  have g36 : (all[36]?).bind (·.dst) = some 48 := by subst hall; rfl
  simp (maxSteps := 4000000) (disch := first | assumption | simp [es, Env.sz_put]) only [WO_nil, List.getElem?_cons_zero, List.getElem?_cons_succ, WO_cons, WD_nil, WD_cons, List.nil_append, List.append_nil, List.cons_append, sel, nthO, wantedA_free, wantedA_by, putA_into, putA_no, execA, opv, opvs, ofConst, ofScalar, pureR, newR, skipR, builtinA, Env.get_put, binA, arith, Nat.reduceEqDiff, Nat.reduceAdd, reduceIte, bind2, Heap.bump0, isConst, beq_self_eq_true, Bool.false_eq_true, Bool.or_true, Bool.or_false, Bool.not_true, Bool.not_false, undefA, Option.map_some, and_self, bTF, bFT, WI_nil, WI_read, WI_pure, WI_make, WI_act, ActI_pure, ActI_make, ActI_act, true_and, sel3, nthK, e1]
  refine ReadI.into (v :=  .agg [vi y0, vi y1, vi y2] ) (Kp.refl h3 ) (fun h' hI => by simp (maxSteps := 4000000) (disch := first | assumption | simp [es, Env.sz_put]) only [WO_nil, List.getElem?_cons_zero, List.getElem?_cons_succ, WO_cons, WD_nil, WD_cons, List.nil_append, List.append_nil, List.cons_append, sel, nthO, wantedA_free, wantedA_by, putA_into, putA_no, execA, opv, opvs, ofConst, ofScalar, pureR, newR, skipR, builtinA, Env.get_put, binA, arith, Nat.reduceEqDiff, Nat.reduceAdd, reduceIte, bind2, Heap.bump0, isConst, beq_self_eq_true, Bool.false_eq_true, Bool.or_true, Bool.or_false, Bool.not_true, Bool.not_false, undefA, Option.map_some, and_self, bTF, bFT,  g27 h' hI ]) ( freeA_beq rfl) (by simp [es, Env.sz_put]) ?_
  simp (maxSteps := 4000000) (disch := first | assumption | simp [es, Env.sz_put]) only [WO_nil, List.getElem?_cons_zero, List.getElem?_cons_succ, WO_cons, WD_nil, WD_cons, List.nil_append, List.append_nil, List.cons_append, sel, nthO, wantedA_free, wantedA_by, putA_into, putA_no, execA, opv, opvs, ofConst, ofScalar, pureR, newR, skipR, builtinA, Env.get_put, binA, arith, Nat.reduceEqDiff, Nat.reduceAdd, reduceIte, bind2, Heap.bump0, isConst, beq_self_eq_true, Bool.false_eq_true, Bool.or_true, Bool.or_false, Bool.not_true, Bool.not_false, undefA, Option.map_some, and_self, bTF, bFT, WI_nil, WI_read, WI_pure, WI_make, WI_act, ActI_pure, ActI_make, ActI_act, true_and, sel3, nthK, e1]
  refine ReadI.into (v :=  .agg [vi wd, vi hg, p] ) (Kp.refl h3 ) (fun h' hI => by simp (maxSteps := 4000000) (disch := first | assumption | simp [es, Env.sz_put]) only [WO_nil, List.getElem?_cons_zero, List.getElem?_cons_succ, WO_cons, WD_nil, WD_cons, List.nil_append, List.append_nil, List.cons_append, sel, nthO, wantedA_free, wantedA_by, putA_into, putA_no, execA, opv, opvs, ofConst, ofScalar, pureR, newR, skipR, builtinA, Env.get_put, binA, arith, Nat.reduceEqDiff, Nat.reduceAdd, reduceIte, bind2, Heap.bump0, isConst, beq_self_eq_true, Bool.false_eq_true, Bool.or_true, Bool.or_false, Bool.not_true, Bool.not_false, undefA, Option.map_some, and_self, bTF, bFT,  g24 h' hI ]) ( hbeq) (by simp [es, Env.sz_put]) ?_
  simp (maxSteps := 4000000) (disch := first | assumption | simp [es, Env.sz_put]) only [WO_nil, List.getElem?_cons_zero, List.getElem?_cons_succ, WO_cons, WD_nil, WD_cons, List.nil_append, List.append_nil, List.cons_append, sel, nthO, wantedA_free, wantedA_by, putA_into, putA_no, execA, opv, opvs, ofConst, ofScalar, pureR, newR, skipR, builtinA, Env.get_put, binA, arith, Nat.reduceEqDiff, Nat.reduceAdd, reduceIte, bind2, Heap.bump0, isConst, beq_self_eq_true, Bool.false_eq_true, Bool.or_true, Bool.or_false, Bool.not_true, Bool.not_false, undefA, Option.map_some, and_self, bTF, bFT, WI_nil, WI_read, WI_pure, WI_make, WI_act, ActI_pure, ActI_make, ActI_act, true_and, sel3, nthK, e1, e2]
  refine CallI.into (r4 ) (by simp [es, Env.sz_put]) ( k4) ?_
  simp (maxSteps := 4000000) (disch := first | assumption | simp [es, Env.sz_put]) only [WO_nil, List.getElem?_cons_zero, List.getElem?_cons_succ, WO_cons, WD_nil, WD_cons, List.nil_append, List.append_nil, List.cons_append, sel, nthO, wantedA_free, wantedA_by, putA_into, putA_no, execA, opv, opvs, ofConst, ofScalar, pureR, newR, skipR, builtinA, Env.get_put, binA, arith, Nat.reduceEqDiff, Nat.reduceAdd, reduceIte, bind2, Heap.bump0, isConst, beq_self_eq_true, Bool.false_eq_true, Bool.or_true, Bool.or_false, Bool.not_true, Bool.not_false, undefA, Option.map_some, and_self, bTF, bFT, WI_nil, WI_read, WI_pure, WI_make, WI_act, ActI_pure, ActI_make, ActI_act, true_and, sel3, nthK, guard27, eqdv, g6, fb0]
  refine ReadI.into (v :=  vi y0 ) (k4 ) (fun h' hI => by simp (maxSteps := 4000000) (disch := first | assumption | simp [es, Env.sz_put]) only [WO_nil, List.getElem?_cons_zero, List.getElem?_cons_succ, WO_cons, WD_nil, WD_cons, List.nil_append, List.append_nil, List.cons_append, sel, nthO, wantedA_free, wantedA_by, putA_into, putA_no, execA, opv, opvs, ofConst, ofScalar, pureR, newR, skipR, builtinA, Env.get_put, binA, arith, Nat.reduceEqDiff, Nat.reduceAdd, reduceIte, bind2, Heap.bump0, isConst, beq_self_eq_true, Bool.false_eq_true, Bool.or_true, Bool.or_false, Bool.not_true, Bool.not_false, undefA, Option.map_some, and_self, bTF, bFT,  fb0, d0 h' hI]) (by simp [AV.beq]) (by simp [es, Env.sz_put]) ?_
  simp (maxSteps := 4000000) (disch := first | assumption | simp [es, Env.sz_put]) only [WO_nil, List.getElem?_cons_zero, List.getElem?_cons_succ, WO_cons, WD_nil, WD_cons, List.nil_append, List.append_nil, List.cons_append, sel, nthO, wantedA_free, wantedA_by, putA_into, putA_no, execA, opv, opvs, ofConst, ofScalar, pureR, newR, skipR, builtinA, Env.get_put, binA, arith, Nat.reduceEqDiff, Nat.reduceAdd, reduceIte, bind2, Heap.bump0, isConst, beq_self_eq_true, Bool.false_eq_true, Bool.or_true, Bool.or_false, Bool.not_true, Bool.not_false, undefA, Option.map_some, and_self, bTF, bFT, WI_nil, WI_read, WI_pure, WI_make, WI_act, ActI_pure, ActI_make, ActI_act, true_and, sel3, nthK, g11, n0, decide_true, fb0]
  refine ReadI.into (v :=  vi y0 ) (k4 ) (fun h' hI => by simp (maxSteps := 4000000) (disch := first | assumption | simp [es, Env.sz_put]) only [WO_nil, List.getElem?_cons_zero, List.getElem?_cons_succ, WO_cons, WD_nil, WD_cons, List.nil_append, List.append_nil, List.cons_append, sel, nthO, wantedA_free, wantedA_by, putA_into, putA_no, execA, opv, opvs, ofConst, ofScalar, pureR, newR, skipR, builtinA, Env.get_put, binA, arith, Nat.reduceEqDiff, Nat.reduceAdd, reduceIte, bind2, Heap.bump0, isConst, beq_self_eq_true, Bool.false_eq_true, Bool.or_true, Bool.or_false, Bool.not_true, Bool.not_false, undefA, Option.map_some, and_self, bTF, bFT,  fb0, d0 h' hI]) (by simp [AV.beq]) (by simp [es, Env.sz_put]) ?_
  simp (maxSteps := 4000000) (disch := first | assumption | simp [es, Env.sz_put]) only [WO_nil, List.getElem?_cons_zero, List.getElem?_cons_succ, WO_cons, WD_nil, WD_cons, List.nil_append, List.append_nil, List.cons_append, sel, nthO, wantedA_free, wantedA_by, putA_into, putA_no, execA, opv, opvs, ofConst, ofScalar, pureR, newR, skipR, builtinA, Env.get_put, binA, arith, Nat.reduceEqDiff, Nat.reduceAdd, reduceIte, bind2, Heap.bump0, isConst, beq_self_eq_true, Bool.false_eq_true, Bool.or_true, Bool.or_false, Bool.not_true, Bool.not_false, undefA, Option.map_some, and_self, bTF, bFT, WI_nil, WI_read, WI_pure, WI_make, WI_act, ActI_pure, ActI_make, ActI_act, true_and, sel3, nthK, g16, n1, decide_true, fb1]
  refine ReadI.into (v :=  vi y1 ) (k4 ) (fun h' hI => by simp (maxSteps := 4000000) (disch := first | assumption | simp [es, Env.sz_put]) only [WO_nil, List.getElem?_cons_zero, List.getElem?_cons_succ, WO_cons, WD_nil, WD_cons, List.nil_append, List.append_nil, List.cons_append, sel, nthO, wantedA_free, wantedA_by, putA_into, putA_no, execA, opv, opvs, ofConst, ofScalar, pureR, newR, skipR, builtinA, Env.get_put, binA, arith, Nat.reduceEqDiff, Nat.reduceAdd, reduceIte, bind2, Heap.bump0, isConst, beq_self_eq_true, Bool.false_eq_true, Bool.or_true, Bool.or_false, Bool.not_true, Bool.not_false, undefA, Option.map_some, and_self, bTF, bFT,  fb1, d1 h' hI]) (by simp [AV.beq]) (by simp [es, Env.sz_put]) ?_
  simp (maxSteps := 4000000) (disch := first | assumption | simp [es, Env.sz_put]) only [WO_nil, List.getElem?_cons_zero, List.getElem?_cons_succ, WO_cons, WD_nil, WD_cons, List.nil_append, List.append_nil, List.cons_append, sel, nthO, wantedA_free, wantedA_by, putA_into, putA_no, execA, opv, opvs, ofConst, ofScalar, pureR, newR, skipR, builtinA, Env.get_put, binA, arith, Nat.reduceEqDiff, Nat.reduceAdd, reduceIte, bind2, Heap.bump0, isConst, beq_self_eq_true, Bool.false_eq_true, Bool.or_true, Bool.or_false, Bool.not_true, Bool.not_false, undefA, Option.map_some, and_self, bTF, bFT, WI_nil, WI_read, WI_pure, WI_make, WI_act, ActI_pure, ActI_make, ActI_act, true_and, sel3, nthK, g21, n2, decide_true, fb1]
  refine ReadI.into (v :=  vi y1 ) (k4 ) (fun h' hI => by simp (maxSteps := 4000000) (disch := first | assumption | simp [es, Env.sz_put]) only [WO_nil, List.getElem?_cons_zero, List.getElem?_cons_succ, WO_cons, WD_nil, WD_cons, List.nil_append, List.append_nil, List.cons_append, sel, nthO, wantedA_free, wantedA_by, putA_into, putA_no, execA, opv, opvs, ofConst, ofScalar, pureR, newR, skipR, builtinA, Env.get_put, binA, arith, Nat.reduceEqDiff, Nat.reduceAdd, reduceIte, bind2, Heap.bump0, isConst, beq_self_eq_true, Bool.false_eq_true, Bool.or_true, Bool.or_false, Bool.not_true, Bool.not_false, undefA, Option.map_some, and_self, bTF, bFT,  fb1, d1 h' hI]) (by simp [AV.beq]) (by simp [es, Env.sz_put]) ?_
  simp (maxSteps := 4000000) (disch := first | assumption | simp [es, Env.sz_put]) only [WO_nil, List.getElem?_cons_zero, List.getElem?_cons_succ, WO_cons, WD_nil, WD_cons, List.nil_append, List.append_nil, List.cons_append, sel, nthO, wantedA_free, wantedA_by, putA_into, putA_no, execA, opv, opvs, ofConst, ofScalar, pureR, newR, skipR, builtinA, Env.get_put, binA, arith, Nat.reduceEqDiff, Nat.reduceAdd, reduceIte, bind2, Heap.bump0, isConst, beq_self_eq_true, Bool.false_eq_true, Bool.or_true, Bool.or_false, Bool.not_true, Bool.not_false, undefA, Option.map_some, and_self, bTF, bFT, WI_nil, WI_read, WI_pure, WI_make, WI_act, ActI_pure, ActI_make, ActI_act, true_and, sel3, nthK, g26, n3, decide_true, fb2]
  refine ReadI.into (v :=  vi y2 ) (k4 ) (fun h' hI => by simp (maxSteps := 4000000) (disch := first | assumption | simp [es, Env.sz_put]) only [WO_nil, List.getElem?_cons_zero, List.getElem?_cons_succ, WO_cons, WD_nil, WD_cons, List.nil_append, List.append_nil, List.cons_append, sel, nthO, wantedA_free, wantedA_by, putA_into, putA_no, execA, opv, opvs, ofConst, ofScalar, pureR, newR, skipR, builtinA, Env.get_put, binA, arith, Nat.reduceEqDiff, Nat.reduceAdd, reduceIte, bind2, Heap.bump0, isConst, beq_self_eq_true, Bool.false_eq_true, Bool.or_true, Bool.or_false, Bool.not_true, Bool.not_false, undefA, Option.map_some, and_self, bTF, bFT,  fb2, d2 h' hI]) (by simp [AV.beq]) (by simp [es, Env.sz_put]) ?_
  simp (maxSteps := 4000000) (disch := first | assumption | simp [es, Env.sz_put]) only [WO_nil, List.getElem?_cons_zero, List.getElem?_cons_succ, WO_cons, WD_nil, WD_cons, List.nil_append, List.append_nil, List.cons_append, sel, nthO, wantedA_free, wantedA_by, putA_into, putA_no, execA, opv, opvs, ofConst, ofScalar, pureR, newR, skipR, builtinA, Env.get_put, binA, arith, Nat.reduceEqDiff, Nat.reduceAdd, reduceIte, bind2, Heap.bump0, isConst, beq_self_eq_true, Bool.false_eq_true, Bool.or_true, Bool.or_false, Bool.not_true, Bool.not_false, undefA, Option.map_some, and_self, bTF, bFT, WI_nil, WI_read, WI_pure, WI_make, WI_act, ActI_pure, ActI_make, ActI_act, true_and, sel3, nthK, g31, n4, decide_true, fb2]
  refine ReadI.into (v :=  vi y2 ) (k4 ) (fun h' hI => by simp (maxSteps := 4000000) (disch := first | assumption | simp [es, Env.sz_put]) only [WO_nil, List.getElem?_cons_zero, List.getElem?_cons_succ, WO_cons, WD_nil, WD_cons, List.nil_append, List.append_nil, List.cons_append, sel, nthO, wantedA_free, wantedA_by, putA_into, putA_no, execA, opv, opvs, ofConst, ofScalar, pureR, newR, skipR, builtinA, Env.get_put, binA, arith, Nat.reduceEqDiff, Nat.reduceAdd, reduceIte, bind2, Heap.bump0, isConst, beq_self_eq_true, Bool.false_eq_true, Bool.or_true, Bool.or_false, Bool.not_true, Bool.not_false, undefA, Option.map_some, and_self, bTF, bFT,  fb2, d2 h' hI]) (by simp [AV.beq]) (by simp [es, Env.sz_put]) ?_
  simp (maxSteps := 4000000) (disch := first | assumption | simp [es, Env.sz_put]) only [WO_nil, List.getElem?_cons_zero, List.getElem?_cons_succ, WO_cons, WD_nil, WD_cons, List.nil_append, List.append_nil, List.cons_append, sel, nthO, wantedA_free, wantedA_by, putA_into, putA_no, execA, opv, opvs, ofConst, ofScalar, pureR, newR, skipR, builtinA, Env.get_put, binA, arith, Nat.reduceEqDiff, Nat.reduceAdd, reduceIte, bind2, Heap.bump0, isConst, beq_self_eq_true, Bool.false_eq_true, Bool.or_true, Bool.or_false, Bool.not_true, Bool.not_false, undefA, Option.map_some, and_self, bTF, bFT, WI_nil, WI_read, WI_pure, WI_make, WI_act, ActI_pure, ActI_make, ActI_act, true_and, sel3, nthK, g36, n5, decide_true]
  refine CallI.into (awake_runs _ ) (by simp [es, Env.sz_put]) ( k4) ?_
  simp (maxSteps := 4000000) (disch := first | assumption | simp [es, Env.sz_put]) only [WO_nil, List.getElem?_cons_zero, List.getElem?_cons_succ, WO_cons, WD_nil, WD_cons, List.nil_append, List.append_nil, List.cons_append, sel, nthO, wantedA_free, wantedA_by, putA_into, putA_no, execA, opv, opvs, ofConst, ofScalar, pureR, newR, skipR, builtinA, Env.get_put, binA, arith, Nat.reduceEqDiff, Nat.reduceAdd, reduceIte, bind2, Heap.bump0, isConst, beq_self_eq_true, Bool.false_eq_true, Bool.or_true, Bool.or_false, Bool.not_true, Bool.not_false, undefA, Option.map_some, and_self, bTF, bFT, WI_nil, WI_read, WI_pure, WI_make, WI_act, ActI_pure, ActI_make, ActI_act, true_and, sel3, nthK, g36]
  subst hK; clear hall; try simp only [Then]
  refine W.ret ?_
  simp only [Then, BlockQ, LoopQ, EndsR, Nat.reduceEqDiff, reduceIte]
  refine ⟨_, rfl, ?_⟩
  simp only [oneOf, Env.get_put, Nat.reduceEqDiff, reduceIte]

end Go.Proofs.YtahdafekballcaaGreat.AM
