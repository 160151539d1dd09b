/-
  The frame laws, part 12: FrameTells' walk.
-/
import Derived.Test.YtmggkamdihgmiaaFr4
import Derived.Test.YtmggkamdihgmiaaFr5
import Derived.Test.YtmggkamdihgmiaaFr7
import Derived.Test.YtmggkamdihgmiaaFr10
import Derived.Test.YtmggkamdihgmiaaAm23
namespace Go.Proofs.Ytmggkamdihgmiaa.AM
open Go Go.Proofs
set_option linter.unusedVariables false
set_option linter.unusedSimpArgs false

theorem und23 : Try.prog.underlying 23 = some (.array 2 3) := by kernel_rfl
theorem und25 : Try.prog.underlying 25 = some (.int .i64) := by kernel_rfl
theorem size23 : sizeA Try.prog 23 = some 2 := by kernel_rfl

theorem addr23 (B : Nat) {i : Int} (h0 : 0 ≤ i) (h1 : i < 2) : indexAddrA Try.prog 23 (.ptr B 0) (vi i) = some (.ptr B i.toNat) := by
  simp only [indexAddrA, und23, sizeA3]
  rw [if_pos ⟨h0, h1⟩]
  simp

theorem box_agg (h : Heap) (f : Nat) (l : List AV) : boxA h f (.agg l) = some (.ptr f 0, newA h f l) := rfl

theorem load_rd {h : Heap} {B i : Nat} {l : List AV} {v : AV} (hB : rdA h B = l) (hi : l[i]? = some v) : loadA Try.prog h 3 (.ptr B i) = some v := by
  simp only [loadA, aggA3, hB, hi]

theorem rd_new (h : Heap) (f : Nat) (l : List AV) : rdA (newA h f l) f = l := by
  unfold rdA newA
  rw [Heap.get_put, if_pos rfl]

set_option maxHeartbeats 4000000 in
theorem tells_runs {h : Heap} {a b : AV} {ws l0 : List Int} {x y : Int} (ha0 : Holds h a ws) (hb0 : Holds h b l0) (hr : ∀ w, w ∈ ws → -9223372036854775808 ≤ w ∧ w < 9223372036854775808) : ∃ h', Runs Try.prog XA 3 [a, b, .agg [vi x, vi y]] h (.ret (.bool true)) h' := by
  suffices hs : ∃ r h', Runs Try.prog XA 3 [a, b, .agg [vi x, vi y]] h r h' ∧ r = .ret (.bool true) by
    obtain ⟨r, h', h1, rfl⟩ := hs
    exact ⟨h', h1⟩
  refine Runs.ends rfl Try.func3 rfl ?_
  generalize hE : Env.init [a, b, .agg [vi x, vi y]] Try.f3.ntmps = e
  have e0 : e.get 0 = a := by subst hE; rfl
  have e1 : e.get 1 = b := by subst hE; rfl
  have e2 : e.get 2 = .agg [vi x, vi y] := by subst hE; rfl
  have es : e.sz = 79 := by subst hE; rfl
  clear hE
  refine W.seqR 2 rfl fun K all hK hall => ?_
  simp (maxSteps := 2000000) (disch := first | assumption | simp [es, Env.sz_put]) only [WO_nil, List.getElem?_cons_zero, List.getElem?_cons_succ, WO_cons, WD_nil, WD_cons, List.nil_append, List.append_nil, List.cons_append, sel, nthO, wantedA_free, wantedA_by, putA_into, putA_no, execA, opv, opvs, ofConst, ofScalar, pureR, newR, skipR, builtinA, Env.get_put, binA, arith, Nat.reduceEqDiff, Nat.reduceAdd, reduceIte, bind2, Heap.bump0, isConst, beq_self_eq_true, Bool.false_eq_true, Bool.or_true, Bool.or_false, Bool.not_true, Bool.not_false, undefA, Option.map_some, and_self, bTF, bFT, e2, box_agg]
  subst hK; clear hall; try simp only [Then]
  have kp1 : Kp h (newA (h.bump 2) h.next [vi x, vi y]) := (Kp.bump h 2).newA (Nat.le_refl _) _ _
  have hB1 : rdA (newA (h.bump 2) h.next [vi x, vi y]) h.next = [vi x, vi y] := rd_new _ _ _
  have hn1 : h.next < (newA (h.bump 2) h.next [vi x, vi y]).next := by show h.next < h.next + 2; omega
  generalize h.next = B at hB1 hn1 kp1
  generalize newA (h.bump 2) B [vi x, vi y] = h1 at hB1 hn1 kp1
  have ha1 := ha0.ext kp1
  have hb1 := hb0.ext kp1
  have hlb := hb1.len
  obtain ⟨b', hcut, hb'⟩ := hb1.cutTo 1000
  refine W.seqM (fun o s => ∃ b' l1, o = .norm ∧ s.heap = h1 ∧ Holds h1 b' l1 ∧ s.env.sz = 79 ∧ s.env.get 0 = a ∧ s.env.get 1 = b' ∧ s.env.get 5 = .ptr B 0) ?_ ?_
  · refine W.seqR 0 rfl fun K all hK hall => ?_
    simp (maxSteps := 2000000) (disch := first | assumption | simp [es, Env.sz_put]) only [WO_nil, List.getElem?_cons_zero, List.getElem?_cons_succ, WO_cons, WD_nil, WD_cons, List.nil_append, List.append_nil, List.cons_append, sel, nthO, wantedA_free, wantedA_by, putA_into, putA_no, execA, opv, opvs, ofConst, ofScalar, pureR, newR, skipR, builtinA, Env.get_put, binA, arith, Nat.reduceEqDiff, Nat.reduceAdd, reduceIte, bind2, Heap.bump0, isConst, beq_self_eq_true, Bool.false_eq_true, Bool.or_true, Bool.or_false, Bool.not_true, Bool.not_false, undefA, Option.map_some, and_self, bTF, bFT, e1, hlb]
    subst hK; clear hall; try simp only [Then]
    by_cases c1 : (l0.length : Int) > 1000
    · refine W.condT (by simp only [opv, ofConst, ofScalar, Env.get_put, Nat.reduceEqDiff, reduceIte, c1, decide_true]) ?_
      have c2 : (1000 : Int) < l0.length := by omega
      simp only [Int.ofNat_eq_natCast, Int.cast_ofNat_Int, c2, if_true] at hcut
      refine W.reg 0 rfl fun K all hK hall => ?_
      simp (maxSteps := 2000000) (disch := first | assumption | simp [es, Env.sz_put]) only [WO_nil, List.getElem?_cons_zero, List.getElem?_cons_succ, WO_cons, WD_nil, WD_cons, List.nil_append, List.append_nil, List.cons_append, sel, nthO, wantedA_free, wantedA_by, putA_into, putA_no, execA, opv, opvs, ofConst, ofScalar, pureR, newR, skipR, builtinA, Env.get_put, binA, arith, Nat.reduceEqDiff, Nat.reduceAdd, reduceIte, bind2, Heap.bump0, isConst, beq_self_eq_true, Bool.false_eq_true, Bool.or_true, Bool.or_false, Bool.not_true, Bool.not_false, undefA, Option.map_some, and_self, bTF, bFT, e1, opvO, hcut]
      subst hK; clear hall; try simp only [Then]
      refine ⟨b', l0.take 1000, trivial, trivial, hb', ?_, ?_, ?_, ?_⟩
      · simp only [Env.sz_put, es]
      · simp only [Env.get_put, Nat.reduceEqDiff, reduceIte, e0]
      · simp only [Env.get_put, Nat.reduceEqDiff, reduceIte]
      · simp only [Env.get_put, Nat.reduceEqDiff, reduceIte]
    · refine W.condF (by simp only [opv, ofConst, ofScalar, Env.get_put, Nat.reduceEqDiff, reduceIte, c1, decide_false]) ?_
      refine W.skip ?_
      refine ⟨b, l0, rfl, rfl, hb1, ?_, ?_, ?_, ?_⟩
      · simp only [Env.sz_put, es]
      · simp only [Env.get_put, Nat.reduceEqDiff, reduceIte, e0]
      · simp only [Env.get_put, Nat.reduceEqDiff, reduceIte, e1]
      · simp only [Env.get_put, Nat.reduceEqDiff, reduceIte]
  clear e0 e1 e2 es e hcut hb' b' hlb hb1 hb0
  rintro o ⟨e, h2⟩ ⟨b', l, rfl, hh, hb, es, e0, e1, e5⟩
  dsimp only at hh hb es e0 e1 e5
  subst hh
  simp only [Then]
  obtain ⟨p, h3, kp3, op, r3⟩ := copy_runs ha1
  have ha3 := ha1.ext kp3
  have hb3 := hb.ext kp3
  obtain ⟨q, h4, kp4, oq, r4⟩ := copy_runs hb3
  have ha4 := ha3.ext kp4
  have hb4 := hb3.ext kp4
  have hp4 := op.holds.ext kp4
  have hq4 := oq.holds
  refine W.seqR 0 rfl fun K all hK hall => ?_
  simp (maxSteps := 2000000) (disch := first | assumption | simp [es, Env.sz_put]) only [WO_nil, List.getElem?_cons_zero, List.getElem?_cons_succ, WO_cons, WD_nil, WD_cons, List.nil_append, List.append_nil, List.cons_append, sel, nthO, wantedA_free, wantedA_by, putA_into, putA_no, execA, opv, opvs, ofConst, ofScalar, pureR, newR, skipR, builtinA, Env.get_put, binA, arith, Nat.reduceEqDiff, Nat.reduceAdd, reduceIte, bind2, Heap.bump0, isConst, beq_self_eq_true, Bool.false_eq_true, Bool.or_true, Bool.or_false, Bool.not_true, Bool.not_false, undefA, Option.map_some, and_self, bTF, bFT, e0, e1]
  refine CallK.into (r3) (by simp [es, Env.sz_put]) ?_
  simp (maxSteps := 2000000) (disch := first | assumption | simp [es, Env.sz_put]) only [WO_nil, List.getElem?_cons_zero, List.getElem?_cons_succ, WO_cons, WD_nil, WD_cons, List.nil_append, List.append_nil, List.cons_append, sel, nthO, wantedA_free, wantedA_by, putA_into, putA_no, execA, opv, opvs, ofConst, ofScalar, pureR, newR, skipR, builtinA, Env.get_put, binA, arith, Nat.reduceEqDiff, Nat.reduceAdd, reduceIte, bind2, Heap.bump0, isConst, beq_self_eq_true, Bool.false_eq_true, Bool.or_true, Bool.or_false, Bool.not_true, Bool.not_false, undefA, Option.map_some, and_self, bTF, bFT, e0, e1]
  refine CallK.into (r4) (by simp [es, Env.sz_put]) ?_
  simp (maxSteps := 2000000) (disch := first | assumption | simp [es, Env.sz_put]) only [WO_nil, List.getElem?_cons_zero, List.getElem?_cons_succ, WO_cons, WD_nil, WD_cons, List.nil_append, List.append_nil, List.cons_append, sel, nthO, wantedA_free, wantedA_by, putA_into, putA_no, execA, opv, opvs, ofConst, ofScalar, pureR, newR, skipR, builtinA, Env.get_put, binA, arith, Nat.reduceEqDiff, Nat.reduceAdd, reduceIte, bind2, Heap.bump0, isConst, beq_self_eq_true, Bool.false_eq_true, Bool.or_true, Bool.or_false, Bool.not_true, Bool.not_false, undefA, Option.map_some, and_self, bTF, bFT]
  subst hK; clear hall; try simp only [Then]
  obtain ⟨f, h5, kp5, of, r5⟩ := build_runs hp4 hr
  have ha5 := ha4.ext kp5
  have hb5 := hb4.ext kp5
  have hp5 := hp4.ext kp5
  have hq5 := hq4.ext kp5
  refine W.seqR 0 rfl fun K all hK hall => ?_
  simp (maxSteps := 2000000) (disch := first | assumption | simp [es, Env.sz_put]) only [WO_nil, List.getElem?_cons_zero, List.getElem?_cons_succ, WO_cons, WD_nil, WD_cons, List.nil_append, List.append_nil, List.cons_append, sel, nthO, wantedA_free, wantedA_by, putA_into, putA_no, execA, opv, opvs, ofConst, ofScalar, pureR, newR, skipR, builtinA, Env.get_put, binA, arith, Nat.reduceEqDiff, Nat.reduceAdd, reduceIte, bind2, Heap.bump0, isConst, beq_self_eq_true, Bool.false_eq_true, Bool.or_true, Bool.or_false, Bool.not_true, Bool.not_false, undefA, Option.map_some, and_self, bTF, bFT]
  refine CallK.into (r5) (by simp [es, Env.sz_put]) ?_
  simp (maxSteps := 2000000) (disch := first | assumption | simp [es, Env.sz_put]) only [WO_nil, List.getElem?_cons_zero, List.getElem?_cons_succ, WO_cons, WD_nil, WD_cons, List.nil_append, List.append_nil, List.cons_append, sel, nthO, wantedA_free, wantedA_by, putA_into, putA_no, execA, opv, opvs, ofConst, ofScalar, pureR, newR, skipR, builtinA, Env.get_put, binA, arith, Nat.reduceEqDiff, Nat.reduceAdd, reduceIte, bind2, Heap.bump0, isConst, beq_self_eq_true, Bool.false_eq_true, Bool.or_true, Bool.or_false, Bool.not_true, Bool.not_false, undefA, Option.map_some, and_self, bTF, bFT]
  subst hK; clear hall; try simp only [Then]
  obtain ⟨g, h6, kp6, og, r6⟩ := build2_runs ha5 hr
  have ha6 := ha5.ext kp6
  have hb6 := hb5.ext kp6
  have hp6 := hp5.ext kp6
  have hq6 := hq5.ext kp6
  have hf6 := of.holds.ext kp6
  have hg6 := og.holds
  have kpB : Kp h2 h6 := ((kp3.trans kp4).trans kp5).trans kp6
  have hB6 : rdA h6 B = [vi x, vi y] := by rw [kpB.rd hn1]; exact hB1
  have hn6 : B < h6.next := Nat.lt_of_lt_of_le hn1 kpB.1
  refine W.seqR 0 rfl fun K all hK hall => ?_
  simp (maxSteps := 2000000) (disch := first | assumption | simp [es, Env.sz_put]) only [WO_nil, List.getElem?_cons_zero, List.getElem?_cons_succ, WO_cons, WD_nil, WD_cons, List.nil_append, List.append_nil, List.cons_append, sel, nthO, wantedA_free, wantedA_by, putA_into, putA_no, execA, opv, opvs, ofConst, ofScalar, pureR, newR, skipR, builtinA, Env.get_put, binA, arith, Nat.reduceEqDiff, Nat.reduceAdd, reduceIte, bind2, Heap.bump0, isConst, beq_self_eq_true, Bool.false_eq_true, Bool.or_true, Bool.or_false, Bool.not_true, Bool.not_false, undefA, Option.map_some, and_self, bTF, bFT, e0]
  refine CallK.into (r6) (by simp [es, Env.sz_put]) ?_
  simp (maxSteps := 2000000) (disch := first | assumption | simp [es, Env.sz_put]) only [WO_nil, List.getElem?_cons_zero, List.getElem?_cons_succ, WO_cons, WD_nil, WD_cons, List.nil_append, List.append_nil, List.cons_append, sel, nthO, wantedA_free, wantedA_by, putA_into, putA_no, execA, opv, opvs, ofConst, ofScalar, pureR, newR, skipR, builtinA, Env.get_put, binA, arith, Nat.reduceEqDiff, Nat.reduceAdd, reduceIte, bind2, Heap.bump0, isConst, beq_self_eq_true, Bool.false_eq_true, Bool.or_true, Bool.or_false, Bool.not_true, Bool.not_false, undefA, Option.map_some, and_self, bTF, bFT]
  subst hK; clear hall; try simp only [Then]
  clear kpB kp3 kp4 kp5 kp6 r3 r4 r5 r6
  obtain ⟨h7, kp7, r7⟩ := same_runs hf6 hg6
  have hB7 : rdA h7 B = [vi x, vi y] := by rw [kp7.rd hn6]; exact hB6
  have hn7 : B < h7.next := Nat.lt_of_lt_of_le hn6 kp7.1
  obtain ⟨h8, kp8, r8⟩ := owner_runs (t := x) (hq6.ext kp7)
  have hB8 : rdA h8 B = [vi x, vi y] := by rw [kp8.rd hn7]; exact hB7
  have hn8 : B < h8.next := Nat.lt_of_lt_of_le hn7 kp8.1
  obtain ⟨h9, kp9, r9⟩ := owner2_runs (t := x) ((hb6.ext kp7).ext kp8)
  have hB9 : rdA h9 B = [vi x, vi y] := by rw [kp9.rd hn8]; exact hB8
  have hn9 : B < h9.next := Nat.lt_of_lt_of_le hn8 kp9.1
  obtain ⟨h10, kp10, r10⟩ := next_runs (t := x) (w := y) (((hq6.ext kp7).ext kp8).ext kp9)
  have hB10 : rdA h10 B = [vi x, vi y] := by rw [kp10.rd hn9]; exact hB9
  have hn10 : B < h10.next := Nat.lt_of_lt_of_le hn9 kp10.1
  have kpx : Kp h6 h10 := ((kp7.trans kp8).trans kp9).trans kp10
  obtain ⟨h11, kp11, r11⟩ := next2_runs (t := x) (w := y) (hb6.ext kpx)
  have hB11 : rdA h11 B = [vi x, vi y] := by rw [kp11.rd hn10]; exact hB10
  have hn11 : B < h11.next := Nat.lt_of_lt_of_le hn10 kp11.1
  have kpy := kpx.trans kp11
  obtain ⟨h12, kp12, r12⟩ := same_runs (hp6.ext kpy) (ha6.ext kpy)
  have hB12 : rdA h12 B = [vi x, vi y] := by rw [kp12.rd hn11]; exact hB11
  have hn12 : B < h12.next := Nat.lt_of_lt_of_le hn11 kp12.1
  have kpz := kpy.trans kp12
  obtain ⟨h13, kp13, r13⟩ := same_runs (hq6.ext kpz) (hb6.ext kpz)
  have hB13 : rdA h13 B = [vi x, vi y] := by rw [kp13.rd hn12]; exact hB12
  simp only [decide_true] at r7 r12 r13
  have z0 : ((buildE ws).1 == (buildE ws).1) = true := by simp
  have z1 : (ownerS l x == ownerS l x) = true := by simp
  have z2 : (nextS l x y == nextS l x y) = true := by simp
  have ad0 := addr23 B (i := 0) (by omega) (by omega)
  have ad1 := addr23 B (i := 1) (by omega) (by omega)
  have ad0 : indexAddrA Try.prog 23 (.ptr B 0) (.int .i64 0) = some (.ptr B 0) := ad0
  have ad1 : indexAddrA Try.prog 23 (.ptr B 0) (.int .i64 1) = some (.ptr B 1) := ad1
  clear op of og
  refine W.seqI (fun h' => rdA h' B = [vi x, vi y]) 0 [0, 1, 2, 3, 4, 5, 6, 7, 8, 9, 10, 11, 13, 14, 15, 12, 16, 17, 18, 19, 20, 21, 22, 23, 24, 26, 27, 28, 29, 30, 25, 31, 32, 33, 34, 35, 36, 37, 38, 39, 40, 41, 42, 43, 44, 45, 46, 47] [.pure, .pure, .pure, .pure, .pure, .pure, .act, .pure, .pure, .pure, .pure, .read, .act, .pure, .pure, .read, .act, .pure, .pure, .pure, .pure, .pure, .read, .pure, .read, .act, .pure, .pure, .read, .pure, .read, .act, .pure, .pure, .pure, .pure, .pure, .act, .pure, .pure, .pure, .pure, .act, .pure, .pure, .act, .pure, .pure] (by kernel_rfl) (by kernel_rfl) (by kernel_rfl) (by kernel_rfl) rfl rfl fun K all hK hall => ?_
  have g3 : (all[3]?).bind (·.dst) = some 35 := by subst hall; rfl
  have g8 : (all[8]?).bind (·.dst) = some 40 := by subst hall; rfl
  have g19 : (all[19]?).bind (·.dst) = some 51 := by subst hall; rfl
  have g34 : (all[34]?).bind (·.dst) = some 66 := by subst hall; rfl
  have g39 : (all[39]?).bind (·.dst) = some 71 := by subst hall; rfl
  have g44 : (all[44]?).bind (·.dst) = some 76 := by subst hall; rfl
  simp (maxSteps := 4000000) (disch := first | assumption | simp [es, Env.sz_put]) only [WO_nil, List.getElem?_cons_zero, List.getElem?_cons_succ, WO_cons, WD_nil, WD_cons, List.nil_append, List.append_nil, List.cons_append, sel, nthO, wantedA_free, wantedA_by, putA_into, putA_no, execA, opv, opvs, ofConst, ofScalar, pureR, newR, skipR, builtinA, Env.get_put, binA, arith, Nat.reduceEqDiff, Nat.reduceAdd, reduceIte, bind2, Heap.bump0, isConst, beq_self_eq_true, Bool.false_eq_true, Bool.or_true, Bool.or_false, Bool.not_true, Bool.not_false, undefA, Option.map_some, and_self, bTF, bFT, WI_nil, WI_read, WI_pure, WI_make, WI_act, ActI_pure, ActI_make, ActI_act, true_and, sel3, nthK, z0]
  refine CallI.into (r7 ) (by simp [es, Env.sz_put]) ( hB7) ?_
  simp (maxSteps := 4000000) (disch := first | assumption | simp [es, Env.sz_put]) only [WO_nil, List.getElem?_cons_zero, List.getElem?_cons_succ, WO_cons, WD_nil, WD_cons, List.nil_append, List.append_nil, List.cons_append, sel, nthO, wantedA_free, wantedA_by, putA_into, putA_no, execA, opv, opvs, ofConst, ofScalar, pureR, newR, skipR, builtinA, Env.get_put, binA, arith, Nat.reduceEqDiff, Nat.reduceAdd, reduceIte, bind2, Heap.bump0, isConst, beq_self_eq_true, Bool.false_eq_true, Bool.or_true, Bool.or_false, Bool.not_true, Bool.not_false, undefA, Option.map_some, and_self, bTF, bFT, WI_nil, WI_read, WI_pure, WI_make, WI_act, ActI_pure, ActI_make, ActI_act, true_and, sel3, nthK, e5, ad0]
  refine ReadI.into (v :=  vi x ) (hB7 ) (fun h' hI => by simp (maxSteps := 4000000) (disch := first | assumption | simp [es, Env.sz_put]) only [WO_nil, List.getElem?_cons_zero, List.getElem?_cons_succ, WO_cons, WD_nil, WD_cons, List.nil_append, List.append_nil, List.cons_append, sel, nthO, wantedA_free, wantedA_by, putA_into, putA_no, execA, opv, opvs, ofConst, ofScalar, pureR, newR, skipR, builtinA, Env.get_put, binA, arith, Nat.reduceEqDiff, Nat.reduceAdd, reduceIte, bind2, Heap.bump0, isConst, beq_self_eq_true, Bool.false_eq_true, Bool.or_true, Bool.or_false, Bool.not_true, Bool.not_false, undefA, Option.map_some, and_self, bTF, bFT,  e5, ad0, ad1, load_rd (i := 0) hI rfl]) (by simp [AV.beq]) (by simp [es, Env.sz_put]) ?_
  simp (maxSteps := 4000000) (disch := first | assumption | simp [es, Env.sz_put]) only [WO_nil, List.getElem?_cons_zero, List.getElem?_cons_succ, WO_cons, WD_nil, WD_cons, List.nil_append, List.append_nil, List.cons_append, sel, nthO, wantedA_free, wantedA_by, putA_into, putA_no, execA, opv, opvs, ofConst, ofScalar, pureR, newR, skipR, builtinA, Env.get_put, binA, arith, Nat.reduceEqDiff, Nat.reduceAdd, reduceIte, bind2, Heap.bump0, isConst, beq_self_eq_true, Bool.false_eq_true, Bool.or_true, Bool.or_false, Bool.not_true, Bool.not_false, undefA, Option.map_some, and_self, bTF, bFT, WI_nil, WI_read, WI_pure, WI_make, WI_act, ActI_pure, ActI_make, ActI_act, true_and, sel3, nthK, e1, e5, ad0]
  refine ReadI.into (v :=  vi x ) (hB7 ) (fun h' hI => by simp (maxSteps := 4000000) (disch := first | assumption | simp [es, Env.sz_put]) only [WO_nil, List.getElem?_cons_zero, List.getElem?_cons_succ, WO_cons, WD_nil, WD_cons, List.nil_append, List.append_nil, List.cons_append, sel, nthO, wantedA_free, wantedA_by, putA_into, putA_no, execA, opv, opvs, ofConst, ofScalar, pureR, newR, skipR, builtinA, Env.get_put, binA, arith, Nat.reduceEqDiff, Nat.reduceAdd, reduceIte, bind2, Heap.bump0, isConst, beq_self_eq_true, Bool.false_eq_true, Bool.or_true, Bool.or_false, Bool.not_true, Bool.not_false, undefA, Option.map_some, and_self, bTF, bFT,  e5, ad0, ad1, load_rd (i := 0) hI rfl]) (by simp [AV.beq]) (by simp [es, Env.sz_put]) ?_
  simp (maxSteps := 4000000) (disch := first | assumption | simp [es, Env.sz_put]) only [WO_nil, List.getElem?_cons_zero, List.getElem?_cons_succ, WO_cons, WD_nil, WD_cons, List.nil_append, List.append_nil, List.cons_append, sel, nthO, wantedA_free, wantedA_by, putA_into, putA_no, execA, opv, opvs, ofConst, ofScalar, pureR, newR, skipR, builtinA, Env.get_put, binA, arith, Nat.reduceEqDiff, Nat.reduceAdd, reduceIte, bind2, Heap.bump0, isConst, beq_self_eq_true, Bool.false_eq_true, Bool.or_true, Bool.or_false, Bool.not_true, Bool.not_false, undefA, Option.map_some, and_self, bTF, bFT, WI_nil, WI_read, WI_pure, WI_make, WI_act, ActI_pure, ActI_make, ActI_act, true_and, sel3, nthK, e1, e5, ad0]
  refine CallI.into (r8 ) (by simp [es, Env.sz_put]) ( hB8) ?_
  simp (maxSteps := 4000000) (disch := first | assumption | simp [es, Env.sz_put]) only [WO_nil, List.getElem?_cons_zero, List.getElem?_cons_succ, WO_cons, WD_nil, WD_cons, List.nil_append, List.append_nil, List.cons_append, sel, nthO, wantedA_free, wantedA_by, putA_into, putA_no, execA, opv, opvs, ofConst, ofScalar, pureR, newR, skipR, builtinA, Env.get_put, binA, arith, Nat.reduceEqDiff, Nat.reduceAdd, reduceIte, bind2, Heap.bump0, isConst, beq_self_eq_true, Bool.false_eq_true, Bool.or_true, Bool.or_false, Bool.not_true, Bool.not_false, undefA, Option.map_some, and_self, bTF, bFT, WI_nil, WI_read, WI_pure, WI_make, WI_act, ActI_pure, ActI_make, ActI_act, true_and, sel3, nthK, e1, e5, ad0]
  refine CallI.into (r9 ) (by simp [es, Env.sz_put]) ( hB9) ?_
  simp (maxSteps := 4000000) (disch := first | assumption | simp [es, Env.sz_put]) only [WO_nil, List.getElem?_cons_zero, List.getElem?_cons_succ, WO_cons, WD_nil, WD_cons, List.nil_append, List.append_nil, List.cons_append, sel, nthO, wantedA_free, wantedA_by, putA_into, putA_no, execA, opv, opvs, ofConst, ofScalar, pureR, newR, skipR, builtinA, Env.get_put, binA, arith, Nat.reduceEqDiff, Nat.reduceAdd, reduceIte, bind2, Heap.bump0, isConst, beq_self_eq_true, Bool.false_eq_true, Bool.or_true, Bool.or_false, Bool.not_true, Bool.not_false, undefA, Option.map_some, and_self, bTF, bFT, WI_nil, WI_read, WI_pure, WI_make, WI_act, ActI_pure, ActI_make, ActI_act, true_and, sel3, nthK, e5, ad0, ad1, z1]
  refine ReadI.into (v :=  vi x ) (hB9 ) (fun h' hI => by simp (maxSteps := 4000000) (disch := first | assumption | simp [es, Env.sz_put]) only [WO_nil, List.getElem?_cons_zero, List.getElem?_cons_succ, WO_cons, WD_nil, WD_cons, List.nil_append, List.append_nil, List.cons_append, sel, nthO, wantedA_free, wantedA_by, putA_into, putA_no, execA, opv, opvs, ofConst, ofScalar, pureR, newR, skipR, builtinA, Env.get_put, binA, arith, Nat.reduceEqDiff, Nat.reduceAdd, reduceIte, bind2, Heap.bump0, isConst, beq_self_eq_true, Bool.false_eq_true, Bool.or_true, Bool.or_false, Bool.not_true, Bool.not_false, undefA, Option.map_some, and_self, bTF, bFT,  e5, ad0, ad1, load_rd (i := 0) hI rfl]) (by simp [AV.beq]) (by simp [es, Env.sz_put]) ?_
  simp (maxSteps := 4000000) (disch := first | assumption | simp [es, Env.sz_put]) only [WO_nil, List.getElem?_cons_zero, List.getElem?_cons_succ, WO_cons, WD_nil, WD_cons, List.nil_append, List.append_nil, List.cons_append, sel, nthO, wantedA_free, wantedA_by, putA_into, putA_no, execA, opv, opvs, ofConst, ofScalar, pureR, newR, skipR, builtinA, Env.get_put, binA, arith, Nat.reduceEqDiff, Nat.reduceAdd, reduceIte, bind2, Heap.bump0, isConst, beq_self_eq_true, Bool.false_eq_true, Bool.or_true, Bool.or_false, Bool.not_true, Bool.not_false, undefA, Option.map_some, and_self, bTF, bFT, WI_nil, WI_read, WI_pure, WI_make, WI_act, ActI_pure, ActI_make, ActI_act, true_and, sel3, nthK, e5, ad0, ad1]
  refine ReadI.into (v :=  vi y ) (hB9 ) (fun h' hI => by simp (maxSteps := 4000000) (disch := first | assumption | simp [es, Env.sz_put]) only [WO_nil, List.getElem?_cons_zero, List.getElem?_cons_succ, WO_cons, WD_nil, WD_cons, List.nil_append, List.append_nil, List.cons_append, sel, nthO, wantedA_free, wantedA_by, putA_into, putA_no, execA, opv, opvs, ofConst, ofScalar, pureR, newR, skipR, builtinA, Env.get_put, binA, arith, Nat.reduceEqDiff, Nat.reduceAdd, reduceIte, bind2, Heap.bump0, isConst, beq_self_eq_true, Bool.false_eq_true, Bool.or_true, Bool.or_false, Bool.not_true, Bool.not_false, undefA, Option.map_some, and_self, bTF, bFT,  e5, ad0, ad1, load_rd (i := 1) hI rfl]) (by simp [AV.beq]) (by simp [es, Env.sz_put]) ?_
  simp (maxSteps := 4000000) (disch := first | assumption | simp [es, Env.sz_put]) only [WO_nil, List.getElem?_cons_zero, List.getElem?_cons_succ, WO_cons, WD_nil, WD_cons, List.nil_append, List.append_nil, List.cons_append, sel, nthO, wantedA_free, wantedA_by, putA_into, putA_no, execA, opv, opvs, ofConst, ofScalar, pureR, newR, skipR, builtinA, Env.get_put, binA, arith, Nat.reduceEqDiff, Nat.reduceAdd, reduceIte, bind2, Heap.bump0, isConst, beq_self_eq_true, Bool.false_eq_true, Bool.or_true, Bool.or_false, Bool.not_true, Bool.not_false, undefA, Option.map_some, and_self, bTF, bFT, WI_nil, WI_read, WI_pure, WI_make, WI_act, ActI_pure, ActI_make, ActI_act, true_and, sel3, nthK, e1, e5, ad0, ad1]
  refine ReadI.into (v :=  vi x ) (hB9 ) (fun h' hI => by simp (maxSteps := 4000000) (disch := first | assumption | simp [es, Env.sz_put]) only [WO_nil, List.getElem?_cons_zero, List.getElem?_cons_succ, WO_cons, WD_nil, WD_cons, List.nil_append, List.append_nil, List.cons_append, sel, nthO, wantedA_free, wantedA_by, putA_into, putA_no, execA, opv, opvs, ofConst, ofScalar, pureR, newR, skipR, builtinA, Env.get_put, binA, arith, Nat.reduceEqDiff, Nat.reduceAdd, reduceIte, bind2, Heap.bump0, isConst, beq_self_eq_true, Bool.false_eq_true, Bool.or_true, Bool.or_false, Bool.not_true, Bool.not_false, undefA, Option.map_some, and_self, bTF, bFT,  e5, ad0, ad1, load_rd (i := 0) hI rfl]) (by simp [AV.beq]) (by simp [es, Env.sz_put]) ?_
  simp (maxSteps := 4000000) (disch := first | assumption | simp [es, Env.sz_put]) only [WO_nil, List.getElem?_cons_zero, List.getElem?_cons_succ, WO_cons, WD_nil, WD_cons, List.nil_append, List.append_nil, List.cons_append, sel, nthO, wantedA_free, wantedA_by, putA_into, putA_no, execA, opv, opvs, ofConst, ofScalar, pureR, newR, skipR, builtinA, Env.get_put, binA, arith, Nat.reduceEqDiff, Nat.reduceAdd, reduceIte, bind2, Heap.bump0, isConst, beq_self_eq_true, Bool.false_eq_true, Bool.or_true, Bool.or_false, Bool.not_true, Bool.not_false, undefA, Option.map_some, and_self, bTF, bFT, WI_nil, WI_read, WI_pure, WI_make, WI_act, ActI_pure, ActI_make, ActI_act, true_and, sel3, nthK, e1, e5, ad0, ad1]
  refine ReadI.into (v :=  vi y ) (hB9 ) (fun h' hI => by simp (maxSteps := 4000000) (disch := first | assumption | simp [es, Env.sz_put]) only [WO_nil, List.getElem?_cons_zero, List.getElem?_cons_succ, WO_cons, WD_nil, WD_cons, List.nil_append, List.append_nil, List.cons_append, sel, nthO, wantedA_free, wantedA_by, putA_into, putA_no, execA, opv, opvs, ofConst, ofScalar, pureR, newR, skipR, builtinA, Env.get_put, binA, arith, Nat.reduceEqDiff, Nat.reduceAdd, reduceIte, bind2, Heap.bump0, isConst, beq_self_eq_true, Bool.false_eq_true, Bool.or_true, Bool.or_false, Bool.not_true, Bool.not_false, undefA, Option.map_some, and_self, bTF, bFT,  e5, ad0, ad1, load_rd (i := 1) hI rfl]) (by simp [AV.beq]) (by simp [es, Env.sz_put]) ?_
  simp (maxSteps := 4000000) (disch := first | assumption | simp [es, Env.sz_put]) only [WO_nil, List.getElem?_cons_zero, List.getElem?_cons_succ, WO_cons, WD_nil, WD_cons, List.nil_append, List.append_nil, List.cons_append, sel, nthO, wantedA_free, wantedA_by, putA_into, putA_no, execA, opv, opvs, ofConst, ofScalar, pureR, newR, skipR, builtinA, Env.get_put, binA, arith, Nat.reduceEqDiff, Nat.reduceAdd, reduceIte, bind2, Heap.bump0, isConst, beq_self_eq_true, Bool.false_eq_true, Bool.or_true, Bool.or_false, Bool.not_true, Bool.not_false, undefA, Option.map_some, and_self, bTF, bFT, WI_nil, WI_read, WI_pure, WI_make, WI_act, ActI_pure, ActI_make, ActI_act, true_and, sel3, nthK, e1, e5, ad0, ad1]
  refine CallI.into (r10 ) (by simp [es, Env.sz_put]) ( hB10) ?_
  simp (maxSteps := 4000000) (disch := first | assumption | simp [es, Env.sz_put]) only [WO_nil, List.getElem?_cons_zero, List.getElem?_cons_succ, WO_cons, WD_nil, WD_cons, List.nil_append, List.append_nil, List.cons_append, sel, nthO, wantedA_free, wantedA_by, putA_into, putA_no, execA, opv, opvs, ofConst, ofScalar, pureR, newR, skipR, builtinA, Env.get_put, binA, arith, Nat.reduceEqDiff, Nat.reduceAdd, reduceIte, bind2, Heap.bump0, isConst, beq_self_eq_true, Bool.false_eq_true, Bool.or_true, Bool.or_false, Bool.not_true, Bool.not_false, undefA, Option.map_some, and_self, bTF, bFT, WI_nil, WI_read, WI_pure, WI_make, WI_act, ActI_pure, ActI_make, ActI_act, true_and, sel3, nthK, e0, e1]
  refine CallI.into (r11 ) (by simp [es, Env.sz_put]) ( hB11) ?_
  simp (maxSteps := 4000000) (disch := first | assumption | simp [es, Env.sz_put]) only [WO_nil, List.getElem?_cons_zero, List.getElem?_cons_succ, WO_cons, WD_nil, WD_cons, List.nil_append, List.append_nil, List.cons_append, sel, nthO, wantedA_free, wantedA_by, putA_into, putA_no, execA, opv, opvs, ofConst, ofScalar, pureR, newR, skipR, builtinA, Env.get_put, binA, arith, Nat.reduceEqDiff, Nat.reduceAdd, reduceIte, bind2, Heap.bump0, isConst, beq_self_eq_true, Bool.false_eq_true, Bool.or_true, Bool.or_false, Bool.not_true, Bool.not_false, undefA, Option.map_some, and_self, bTF, bFT, WI_nil, WI_read, WI_pure, WI_make, WI_act, ActI_pure, ActI_make, ActI_act, true_and, sel3, nthK, e0, e1, z2]
  refine CallI.into (r12 ) (by simp [es, Env.sz_put]) ( hB12) ?_
  simp (maxSteps := 4000000) (disch := first | assumption | simp [es, Env.sz_put]) only [WO_nil, List.getElem?_cons_zero, List.getElem?_cons_succ, WO_cons, WD_nil, WD_cons, List.nil_append, List.append_nil, List.cons_append, sel, nthO, wantedA_free, wantedA_by, putA_into, putA_no, execA, opv, opvs, ofConst, ofScalar, pureR, newR, skipR, builtinA, Env.get_put, binA, arith, Nat.reduceEqDiff, Nat.reduceAdd, reduceIte, bind2, Heap.bump0, isConst, beq_self_eq_true, Bool.false_eq_true, Bool.or_true, Bool.or_false, Bool.not_true, Bool.not_false, undefA, Option.map_some, and_self, bTF, bFT, WI_nil, WI_read, WI_pure, WI_make, WI_act, ActI_pure, ActI_make, ActI_act, true_and, sel3, nthK, e0, e1]
  refine CallI.into (r13 ) (by simp [es, Env.sz_put]) ( hB13) ?_
  simp (maxSteps := 4000000) (disch := first | assumption | simp [es, Env.sz_put]) only [WO_nil, List.getElem?_cons_zero, List.getElem?_cons_succ, WO_cons, WD_nil, WD_cons, List.nil_append, List.append_nil, List.cons_append, sel, nthO, wantedA_free, wantedA_by, putA_into, putA_no, execA, opv, opvs, ofConst, ofScalar, pureR, newR, skipR, builtinA, Env.get_put, binA, arith, Nat.reduceEqDiff, Nat.reduceAdd, reduceIte, bind2, Heap.bump0, isConst, beq_self_eq_true, Bool.false_eq_true, Bool.or_true, Bool.or_false, Bool.not_true, Bool.not_false, undefA, Option.map_some, and_self, bTF, bFT, WI_nil, WI_read, WI_pure, WI_make, WI_act, ActI_pure, ActI_make, ActI_act, true_and, sel3, nthK, e0]
  refine CallI.into (awake_in _ ) (by simp [es, Env.sz_put]) ( hB13) ?_
  simp (maxSteps := 4000000) (disch := first | assumption | simp [es, Env.sz_put]) only [WO_nil, List.getElem?_cons_zero, List.getElem?_cons_succ, WO_cons, WD_nil, WD_cons, List.nil_append, List.append_nil, List.cons_append, sel, nthO, wantedA_free, wantedA_by, putA_into, putA_no, execA, opv, opvs, ofConst, ofScalar, pureR, newR, skipR, builtinA, Env.get_put, binA, arith, Nat.reduceEqDiff, Nat.reduceAdd, reduceIte, bind2, Heap.bump0, isConst, beq_self_eq_true, Bool.false_eq_true, Bool.or_true, Bool.or_false, Bool.not_true, Bool.not_false, undefA, Option.map_some, and_self, bTF, bFT, WI_nil, WI_read, WI_pure, WI_make, WI_act, ActI_pure, ActI_make, ActI_act, true_and, sel3, nthK, e0]
  subst hK; clear hall; try simp only [Then]
  refine W.ret ?_
  simp only [Then, BlockQ, LoopQ, EndsR, Nat.reduceEqDiff, reduceIte]
  refine ⟨_, rfl, ?_⟩
  simp only [oneOf, Env.get_put, Nat.reduceEqDiff, reduceIte]

end Go.Proofs.Ytmggkamdihgmiaa.AM
