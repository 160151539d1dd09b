/-
  The colours of a texture, part 1: whole numbers, sizes, products, places. Conditions: none.
-/
import Derived.Test.YtahdafekballcaaGreatTx0
namespace Go.Proofs.YtahdafekballcaaGreat.AM
open Go Go.Proofs
set_option linter.unusedVariables false
set_option linter.unusedSimpArgs false

theorem of_runs {h : Heap} {n : Int} (h0 : 0 ≤ n) (h1 : n < 2147483648) : Runs Tryz.prog XT 10 [vi n] h (.ret (vi (n * 4294967296))) h := by
  suffices hs : ∃ r h', Runs Tryz.prog XT 10 [vi n] h r h' ∧ (r = .ret (vi (n * 4294967296)) ∧ h' = h) by
    obtain ⟨r, h', h1, rfl, rfl⟩ := hs
    exact h1
  refine Runs.ends rfl Tryz.func10 rfl ?_
  generalize hE : Env.init [vi n] Tryz.f10.ntmps = e
  have e0 : e.get 0 = vi n := by subst hE; rfl
  have es : e.sz = 11 := by subst hE; rfl
  clear hE
  have c1 : ¬ n ≥ 2147483648 := by omega
  have c2 : ¬ n < -2147483648 := by omega
  have w1 : IntKind.i64.wrap (n * 4294967296) = n * 4294967296 := wrap_i (by omega) (by omega)
  refine W.seqR 0 rfl fun K all hK hall => ?_
  simp (maxSteps := 2000000) (disch := first | assumption | simp [es, Env.sz_put]) only [WO_nil, List.getElem?_cons_zero, List.getElem?_cons_succ, WO_cons, WD_nil, WD_cons, List.nil_append, List.append_nil, List.cons_append, sel, nthO, wantedA_free, wantedA_by, putA_into, putA_no, execA, opv, opvs, ofConst, ofScalar, pureR, newR, skipR, builtinA, Env.get_put, binA, arith, Nat.reduceEqDiff, Nat.reduceAdd, reduceIte, bind2, Heap.bump0, isConst, beq_self_eq_true, Bool.false_eq_true, Bool.or_true, Bool.or_false, Bool.not_true, Bool.not_false, undefA, Option.map_some, and_self, bTF, bFT]
  subst hK; clear hall; try simp only [Then]
  refine W.seqT (W.blockT ?_)
  refine W.seqR 0 rfl fun K all hK hall => ?_
  simp (maxSteps := 2000000) (disch := first | assumption | simp [es, Env.sz_put]) only [WO_nil, List.getElem?_cons_zero, List.getElem?_cons_succ, WO_cons, WD_nil, WD_cons, List.nil_append, List.append_nil, List.cons_append, sel, nthO, wantedA_free, wantedA_by, putA_into, putA_no, execA, opv, opvs, ofConst, ofScalar, pureR, newR, skipR, builtinA, Env.get_put, binA, arith, Nat.reduceEqDiff, Nat.reduceAdd, reduceIte, bind2, Heap.bump0, isConst, beq_self_eq_true, Bool.false_eq_true, Bool.or_true, Bool.or_false, Bool.not_true, Bool.not_false, undefA, Option.map_some, and_self, bTF, bFT, e0]
  subst hK; clear hall; try simp only [Then]
  refine W.condF (by simp only [opv, ofConst, ofScalar, Env.get_put, Nat.reduceEqDiff, reduceIte, c1, decide_false]) ?_
  refine W.seqR 0 rfl fun K all hK hall => ?_
  simp (maxSteps := 2000000) (disch := first | assumption | simp [es, Env.sz_put]) only [WO_nil, List.getElem?_cons_zero, List.getElem?_cons_succ, WO_cons, WD_nil, WD_cons, List.nil_append, List.append_nil, List.cons_append, sel, nthO, wantedA_free, wantedA_by, putA_into, putA_no, execA, opv, opvs, ofConst, ofScalar, pureR, newR, skipR, builtinA, Env.get_put, binA, arith, Nat.reduceEqDiff, Nat.reduceAdd, reduceIte, bind2, Heap.bump0, isConst, beq_self_eq_true, Bool.false_eq_true, Bool.or_true, Bool.or_false, Bool.not_true, Bool.not_false, undefA, Option.map_some, and_self, bTF, bFT, e0]
  subst hK; clear hall; try simp only [Then]
  refine W.condF (by simp only [opv, ofConst, ofScalar, Env.get_put, Nat.reduceEqDiff, reduceIte, c2, decide_false]) ?_
  refine W.skip ?_
  simp only [Then, BlockQ, LoopQ, EndsR, Nat.reduceEqDiff, reduceIte]
  refine W.seqR 0 rfl fun K all hK hall => ?_
  simp (maxSteps := 2000000) (disch := first | assumption | simp [es, Env.sz_put]) only [WO_nil, List.getElem?_cons_zero, List.getElem?_cons_succ, WO_cons, WD_nil, WD_cons, List.nil_append, List.append_nil, List.cons_append, sel, nthO, wantedA_free, wantedA_by, putA_into, putA_no, execA, opv, opvs, ofConst, ofScalar, pureR, newR, skipR, builtinA, Env.get_put, binA, arith, Nat.reduceEqDiff, Nat.reduceAdd, reduceIte, bind2, Heap.bump0, isConst, beq_self_eq_true, Bool.false_eq_true, Bool.or_true, Bool.or_false, Bool.not_true, Bool.not_false, undefA, Option.map_some, and_self, bTF, bFT, e0, shl_i, w1]
  subst hK; clear hall; try simp only [Then]
  refine W.ret ?_
  simp only [Then, BlockQ, LoopQ, EndsR, Nat.reduceEqDiff, reduceIte]
  refine ⟨_, rfl, ?_, trivial⟩
  simp only [oneOf, Env.get_put, Nat.reduceEqDiff, reduceIte]

theorem size_runs {h : Heap} {n : Int} (h0 : 0 ≤ n) (h1 : n < 9223372036854775808) : ∃ h', Kp h h' ∧ Runs Tryz.prog XT 22 [vi n] h (.ret (vu n)) h' := by
  suffices hs : ∃ r h', Runs Tryz.prog XT 22 [vi n] h r h' ∧ (r = .ret (vu n) ∧ Kp h h') by
    obtain ⟨r, h', h1, rfl, h2⟩ := hs
    exact ⟨h', h2, h1⟩
  refine Runs.ends rfl Tryz.func22 rfl ?_
  generalize hE : Env.init [vi n] Tryz.f22.ntmps = e
  have e0 : e.get 0 = vi n := by subst hE; rfl
  have es : e.sz = 10 := by subst hE; rfl
  clear hE
  have c1 : ¬ n < 0 := by omega
  have hc : ∀ (h : Heap) (fr : Nat), convA Tryz.prog h fr 2 43 (vi n) = some (vu n, h) := fun h fr => by
    have u2 : Tryz.prog.underlying 2 = some (.int .i64) := by kernel_rfl
    have uu : Tryz.prog.underlying 43 = some (.int .u64) := by kernel_rfl
    simp only [convA, u2, uu]
    rw [wrap_u h0 (by omega)]
  refine W.seqR 0 rfl fun K all hK hall => ?_
  simp (maxSteps := 2000000) (disch := first | assumption | simp [es, Env.sz_put]) only [WO_nil, List.getElem?_cons_zero, List.getElem?_cons_succ, WO_cons, WD_nil, WD_cons, List.nil_append, List.append_nil, List.cons_append, sel, nthO, wantedA_free, wantedA_by, putA_into, putA_no, execA, opv, opvs, ofConst, ofScalar, pureR, newR, skipR, builtinA, Env.get_put, binA, arith, Nat.reduceEqDiff, Nat.reduceAdd, reduceIte, bind2, Heap.bump0, isConst, beq_self_eq_true, Bool.false_eq_true, Bool.or_true, Bool.or_false, Bool.not_true, Bool.not_false, undefA, Option.map_some, and_self, bTF, bFT]
  subst hK; clear hall; try simp only [Then]
  refine W.seqA ?_
  refine W.seqR 0 rfl fun K all hK hall => ?_
  simp (maxSteps := 2000000) (disch := first | assumption | simp [es, Env.sz_put]) only [WO_nil, List.getElem?_cons_zero, List.getElem?_cons_succ, WO_cons, WD_nil, WD_cons, List.nil_append, List.append_nil, List.cons_append, sel, nthO, wantedA_free, wantedA_by, putA_into, putA_no, execA, opv, opvs, ofConst, ofScalar, pureR, newR, skipR, builtinA, Env.get_put, binA, arith, Nat.reduceEqDiff, Nat.reduceAdd, reduceIte, bind2, Heap.bump0, isConst, beq_self_eq_true, Bool.false_eq_true, Bool.or_true, Bool.or_false, Bool.not_true, Bool.not_false, undefA, Option.map_some, and_self, bTF, bFT, e0]
  subst hK; clear hall; try simp only [Then]
  refine W.seqT (W.condF (by simp only [opv, ofConst, ofScalar, Env.get_put, Nat.reduceEqDiff, reduceIte, c1, decide_false]) ?_)
  refine W.skip ?_
  simp only [Then]
  refine W.seqR 3 rfl fun K all hK hall => ?_
  simp (maxSteps := 2000000) (disch := first | assumption | simp [es, Env.sz_put]) only [WO_nil, List.getElem?_cons_zero, List.getElem?_cons_succ, WO_cons, WD_nil, WD_cons, List.nil_append, List.append_nil, List.cons_append, sel, nthO, wantedA_free, wantedA_by, putA_into, putA_no, execA, opv, opvs, ofConst, ofScalar, pureR, newR, skipR, builtinA, Env.get_put, binA, arith, Nat.reduceEqDiff, Nat.reduceAdd, reduceIte, bind2, Heap.bump0, isConst, beq_self_eq_true, Bool.false_eq_true, Bool.or_true, Bool.or_false, Bool.not_true, Bool.not_false, undefA, Option.map_some, and_self, bTF, bFT, e0, newR, hc]
  subst hK; clear hall; try simp only [Then]
  refine W.ret ?_
  simp only [Then, BlockQ, LoopQ, EndsR, Nat.reduceEqDiff, reduceIte]
  refine ⟨_, rfl, ?_, Kp.bump h 3⟩
  simp only [oneOf, Env.get_put, Nat.reduceEqDiff, reduceIte]

theorem floor_runs {h : Heap} {n : Int} : Runs Tryz.prog XT 8 [vi n] h (.ret (vi (n / 4294967296))) h := by
  suffices hs : ∃ r h', Runs Tryz.prog XT 8 [vi n] h r h' ∧ (r = .ret (vi (n / 4294967296)) ∧ h' = h) by
    obtain ⟨r, h', h1, rfl, rfl⟩ := hs
    exact h1
  refine Runs.ends rfl Tryz.func8 rfl ?_
  generalize hE : Env.init [vi n] Tryz.f8.ntmps = e
  have e0 : e.get 0 = vi n := by subst hE; rfl
  have es : e.sz = 5 := by subst hE; rfl
  clear hE
  refine W.seqR 0 rfl fun K all hK hall => ?_
  simp (maxSteps := 2000000) (disch := first | assumption | simp [es, Env.sz_put]) only [WO_nil, List.getElem?_cons_zero, List.getElem?_cons_succ, WO_cons, WD_nil, WD_cons, List.nil_append, List.append_nil, List.cons_append, sel, nthO, wantedA_free, wantedA_by, putA_into, putA_no, execA, opv, opvs, ofConst, ofScalar, pureR, newR, skipR, builtinA, Env.get_put, binA, arith, Nat.reduceEqDiff, Nat.reduceAdd, reduceIte, bind2, Heap.bump0, isConst, beq_self_eq_true, Bool.false_eq_true, Bool.or_true, Bool.or_false, Bool.not_true, Bool.not_false, undefA, Option.map_some, and_self, bTF, bFT]
  subst hK; clear hall; try simp only [Then]
  refine W.seqR 0 rfl fun K all hK hall => ?_
  simp (maxSteps := 2000000) (disch := first | assumption | simp [es, Env.sz_put]) only [WO_nil, List.getElem?_cons_zero, List.getElem?_cons_succ, WO_cons, WD_nil, WD_cons, List.nil_append, List.append_nil, List.cons_append, sel, nthO, wantedA_free, wantedA_by, putA_into, putA_no, execA, opv, opvs, ofConst, ofScalar, pureR, newR, skipR, builtinA, Env.get_put, binA, arith, Nat.reduceEqDiff, Nat.reduceAdd, reduceIte, bind2, Heap.bump0, isConst, beq_self_eq_true, Bool.false_eq_true, Bool.or_true, Bool.or_false, Bool.not_true, Bool.not_false, undefA, Option.map_some, and_self, bTF, bFT, e0, shr_i]
  subst hK; clear hall; try simp only [Then]
  refine W.ret ?_
  simp only [Then, BlockQ, LoopQ, EndsR, Nat.reduceEqDiff, reduceIte]
  refine ⟨_, rfl, ?_, trivial⟩
  simp only [oneOf, Env.get_put, Nat.reduceEqDiff, reduceIte]

theorem mul64_runs {h : Heap} {x n q r : Int} (h0 : 0 ≤ x) (h1 : x < 4294967296) (h2 : 0 ≤ n) (h3 : n ≤ 1024) (hq : 0 ≤ q) (hq2 : q < 4294967296) (hr : 0 ≤ r) (hr2 : r < 4294967296) (hqr : x * n = q * 4294967296 + r) :
    Runs Tryz.prog XT 21 [vu x, vu (n * 4294967296)] h (.ret (.tup [vu q, vu (r * 4294967296)])) h := by
  suffices hs : ∃ o h', Runs Tryz.prog XT 21 [vu x, vu (n * 4294967296)] h o h' ∧ (o = .ret (.tup [vu q, vu (r * 4294967296)]) ∧ h' = h) by
    obtain ⟨o, h', h1, rfl, rfl⟩ := hs
    exact h1
  refine Runs.ends rfl Tryz.func21 rfl ?_
  generalize hE : Env.init [vu x, vu (n * 4294967296)] Tryz.f21.ntmps = e
  have e0 : e.get 0 = vu x := by subst hE; rfl
  have e1 : e.get 1 = vu (n * 4294967296) := by subst hE; rfl
  have es : e.sz = 51 := by subst hE; rfl
  clear hE
  have m1 : x % 4294967296 = x := by omega
  have m2 : x / 4294967296 = 0 := by omega
  have m3 : n * 4294967296 % 4294967296 = 0 := by omega
  have m4 : n * 4294967296 / 4294967296 = n := by omega
  have w0 : IntKind.u64.wrap 0 = 0 := rfl
  have hb : 0 ≤ x * n := Int.mul_nonneg h0 h2
  have w1 : IntKind.u64.wrap (x * n) = x * n := wrap_u hb (by omega)
  have w2 : x * n / 4294967296 = q := by omega
  have w3 : IntKind.u64.wrap q = q := wrap_u hq (by omega)
  have w4 : IntKind.u64.wrap (x * (n * 4294967296)) = r * 4294967296 := by
    rw [← Int.mul_assoc, hqr]
    show (if (false && decide ((q * 4294967296 + r) * 4294967296 % 2 ^ 64 ≥ (2 ^ (64 - 1) : Int))) = true then (q * 4294967296 + r) * 4294967296 % 2 ^ 64 - 2 ^ 64 else (q * 4294967296 + r) * 4294967296 % 2 ^ 64) = _
    rw [Bool.false_and, if_neg (by decide)]
    omega
  refine W.seqR 0 rfl fun K all hK hall => ?_
  simp (maxSteps := 2000000) (disch := first | assumption | simp [es, Env.sz_put]) only [WO_nil, List.getElem?_cons_zero, List.getElem?_cons_succ, WO_cons, WD_nil, WD_cons, List.nil_append, List.append_nil, List.cons_append, sel, nthO, wantedA_free, wantedA_by, putA_into, putA_no, execA, opv, opvs, ofConst, ofScalar, pureR, newR, skipR, builtinA, Env.get_put, binA, arith, Nat.reduceEqDiff, Nat.reduceAdd, reduceIte, bind2, Heap.bump0, isConst, beq_self_eq_true, Bool.false_eq_true, Bool.or_true, Bool.or_false, Bool.not_true, Bool.not_false, undefA, Option.map_some, and_self, bTF, bFT]
  subst hK; clear hall; try simp only [Then]
  refine W.seqR 0 rfl fun K all hK hall => ?_
  simp (maxSteps := 2000000) (disch := first | assumption | simp [es, Env.sz_put]) only [WO_nil, List.getElem?_cons_zero, List.getElem?_cons_succ, WO_cons, WD_nil, WD_cons, List.nil_append, List.append_nil, List.cons_append, sel, nthO, wantedA_free, wantedA_by, putA_into, putA_no, execA, opv, opvs, ofConst, ofScalar, pureR, newR, skipR, builtinA, Env.get_put, binA, arith, Nat.reduceEqDiff, Nat.reduceAdd, reduceIte, bind2, Heap.bump0, isConst, beq_self_eq_true, Bool.false_eq_true, Bool.or_true, Bool.or_false, Bool.not_true, Bool.not_false, undefA, Option.map_some, and_self, bTF, bFT, e0, mask_u, m1]
  subst hK; clear hall; try simp only [Then]
  refine W.seqR 0 rfl fun K all hK hall => ?_
  simp (maxSteps := 2000000) (disch := first | assumption | simp [es, Env.sz_put]) only [WO_nil, List.getElem?_cons_zero, List.getElem?_cons_succ, WO_cons, WD_nil, WD_cons, List.nil_append, List.append_nil, List.cons_append, sel, nthO, wantedA_free, wantedA_by, putA_into, putA_no, execA, opv, opvs, ofConst, ofScalar, pureR, newR, skipR, builtinA, Env.get_put, binA, arith, Nat.reduceEqDiff, Nat.reduceAdd, reduceIte, bind2, Heap.bump0, isConst, beq_self_eq_true, Bool.false_eq_true, Bool.or_true, Bool.or_false, Bool.not_true, Bool.not_false, undefA, Option.map_some, and_self, bTF, bFT, e0, shr_u, m2]
  subst hK; clear hall; try simp only [Then]
  refine W.seqR 0 rfl fun K all hK hall => ?_
  simp (maxSteps := 2000000) (disch := first | assumption | simp [es, Env.sz_put]) only [WO_nil, List.getElem?_cons_zero, List.getElem?_cons_succ, WO_cons, WD_nil, WD_cons, List.nil_append, List.append_nil, List.cons_append, sel, nthO, wantedA_free, wantedA_by, putA_into, putA_no, execA, opv, opvs, ofConst, ofScalar, pureR, newR, skipR, builtinA, Env.get_put, binA, arith, Nat.reduceEqDiff, Nat.reduceAdd, reduceIte, bind2, Heap.bump0, isConst, beq_self_eq_true, Bool.false_eq_true, Bool.or_true, Bool.or_false, Bool.not_true, Bool.not_false, undefA, Option.map_some, and_self, bTF, bFT, e1, mask_u, m3]
  subst hK; clear hall; try simp only [Then]
  refine W.seqR 0 rfl fun K all hK hall => ?_
  simp (maxSteps := 2000000) (disch := first | assumption | simp [es, Env.sz_put]) only [WO_nil, List.getElem?_cons_zero, List.getElem?_cons_succ, WO_cons, WD_nil, WD_cons, List.nil_append, List.append_nil, List.cons_append, sel, nthO, wantedA_free, wantedA_by, putA_into, putA_no, execA, opv, opvs, ofConst, ofScalar, pureR, newR, skipR, builtinA, Env.get_put, binA, arith, Nat.reduceEqDiff, Nat.reduceAdd, reduceIte, bind2, Heap.bump0, isConst, beq_self_eq_true, Bool.false_eq_true, Bool.or_true, Bool.or_false, Bool.not_true, Bool.not_false, undefA, Option.map_some, and_self, bTF, bFT, e1, shr_u, m4]
  subst hK; clear hall; try simp only [Then]
  refine W.seqR 0 rfl fun K all hK hall => ?_
  simp (maxSteps := 2000000) (disch := first | assumption | simp [es, Env.sz_put]) only [WO_nil, List.getElem?_cons_zero, List.getElem?_cons_succ, WO_cons, WD_nil, WD_cons, List.nil_append, List.append_nil, List.cons_append, sel, nthO, wantedA_free, wantedA_by, putA_into, putA_no, execA, opv, opvs, ofConst, ofScalar, pureR, newR, skipR, builtinA, Env.get_put, binA, arith, Nat.reduceEqDiff, Nat.reduceAdd, reduceIte, bind2, Heap.bump0, isConst, beq_self_eq_true, Bool.false_eq_true, Bool.or_true, Bool.or_false, Bool.not_true, Bool.not_false, undefA, Option.map_some, and_self, bTF, bFT, Int.mul_zero, w0]
  subst hK; clear hall; try simp only [Then]
  refine W.seqR 0 rfl fun K all hK hall => ?_
  simp (maxSteps := 2000000) (disch := first | assumption | simp [es, Env.sz_put]) only [WO_nil, List.getElem?_cons_zero, List.getElem?_cons_succ, WO_cons, WD_nil, WD_cons, List.nil_append, List.append_nil, List.cons_append, sel, nthO, wantedA_free, wantedA_by, putA_into, putA_no, execA, opv, opvs, ofConst, ofScalar, pureR, newR, skipR, builtinA, Env.get_put, binA, arith, Nat.reduceEqDiff, Nat.reduceAdd, reduceIte, bind2, Heap.bump0, isConst, beq_self_eq_true, Bool.false_eq_true, Bool.or_true, Bool.or_false, Bool.not_true, Bool.not_false, undefA, Option.map_some, and_self, bTF, bFT, Int.mul_zero, w0, shr_u, Int.zero_ediv, Int.add_zero]
  subst hK; clear hall; try simp only [Then]
  refine W.seqR 0 rfl fun K all hK hall => ?_
  simp (maxSteps := 2000000) (disch := first | assumption | simp [es, Env.sz_put]) only [WO_nil, List.getElem?_cons_zero, List.getElem?_cons_succ, WO_cons, WD_nil, WD_cons, List.nil_append, List.append_nil, List.cons_append, sel, nthO, wantedA_free, wantedA_by, putA_into, putA_no, execA, opv, opvs, ofConst, ofScalar, pureR, newR, skipR, builtinA, Env.get_put, binA, arith, Nat.reduceEqDiff, Nat.reduceAdd, reduceIte, bind2, Heap.bump0, isConst, beq_self_eq_true, Bool.false_eq_true, Bool.or_true, Bool.or_false, Bool.not_true, Bool.not_false, undefA, Option.map_some, and_self, bTF, bFT, mask_u, Int.zero_emod]
  subst hK; clear hall; try simp only [Then]
  refine W.seqR 0 rfl fun K all hK hall => ?_
  simp (maxSteps := 2000000) (disch := first | assumption | simp [es, Env.sz_put]) only [WO_nil, List.getElem?_cons_zero, List.getElem?_cons_succ, WO_cons, WD_nil, WD_cons, List.nil_append, List.append_nil, List.cons_append, sel, nthO, wantedA_free, wantedA_by, putA_into, putA_no, execA, opv, opvs, ofConst, ofScalar, pureR, newR, skipR, builtinA, Env.get_put, binA, arith, Nat.reduceEqDiff, Nat.reduceAdd, reduceIte, bind2, Heap.bump0, isConst, beq_self_eq_true, Bool.false_eq_true, Bool.or_true, Bool.or_false, Bool.not_true, Bool.not_false, undefA, Option.map_some, and_self, bTF, bFT, shr_u, Int.zero_ediv]
  subst hK; clear hall; try simp only [Then]
  refine W.seqR 0 rfl fun K all hK hall => ?_
  simp (maxSteps := 2000000) (disch := first | assumption | simp [es, Env.sz_put]) only [WO_nil, List.getElem?_cons_zero, List.getElem?_cons_succ, WO_cons, WD_nil, WD_cons, List.nil_append, List.append_nil, List.cons_append, sel, nthO, wantedA_free, wantedA_by, putA_into, putA_no, execA, opv, opvs, ofConst, ofScalar, pureR, newR, skipR, builtinA, Env.get_put, binA, arith, Nat.reduceEqDiff, Nat.reduceAdd, reduceIte, bind2, Heap.bump0, isConst, beq_self_eq_true, Bool.false_eq_true, Bool.or_true, Bool.or_false, Bool.not_true, Bool.not_false, undefA, Option.map_some, and_self, bTF, bFT, w1, Int.zero_add]
  subst hK; clear hall; try simp only [Then]
  refine W.seqR 0 rfl fun K all hK hall => ?_
  simp (maxSteps := 2000000) (disch := first | assumption | simp [es, Env.sz_put]) only [WO_nil, List.getElem?_cons_zero, List.getElem?_cons_succ, WO_cons, WD_nil, WD_cons, List.nil_append, List.append_nil, List.cons_append, sel, nthO, wantedA_free, wantedA_by, putA_into, putA_no, execA, opv, opvs, ofConst, ofScalar, pureR, newR, skipR, builtinA, Env.get_put, binA, arith, Nat.reduceEqDiff, Nat.reduceAdd, reduceIte, bind2, Heap.bump0, isConst, beq_self_eq_true, Bool.false_eq_true, Bool.or_true, Bool.or_false, Bool.not_true, Bool.not_false, undefA, Option.map_some, and_self, bTF, bFT, Int.zero_mul, w0, Int.zero_add, Int.add_zero, shr_u, w2, w3]
  subst hK; clear hall; try simp only [Then]
  refine W.seqR 0 rfl fun K all hK hall => ?_
  simp (maxSteps := 2000000) (disch := first | assumption | simp [es, Env.sz_put]) only [WO_nil, List.getElem?_cons_zero, List.getElem?_cons_succ, WO_cons, WD_nil, WD_cons, List.nil_append, List.append_nil, List.cons_append, sel, nthO, wantedA_free, wantedA_by, putA_into, putA_no, execA, opv, opvs, ofConst, ofScalar, pureR, newR, skipR, builtinA, Env.get_put, binA, arith, Nat.reduceEqDiff, Nat.reduceAdd, reduceIte, bind2, Heap.bump0, isConst, beq_self_eq_true, Bool.false_eq_true, Bool.or_true, Bool.or_false, Bool.not_true, Bool.not_false, undefA, Option.map_some, and_self, bTF, bFT, e0, e1, w4]
  subst hK; clear hall; try simp only [Then]
  refine W.ret ?_
  simp only [Then, BlockQ, LoopQ, EndsR, Nat.reduceEqDiff, reduceIte]
  refine ⟨_, rfl, ?_, trivial⟩
  simp only [oneOf, Env.get_put, Nat.reduceEqDiff, reduceIte]

theorem signed_runs {h : Heap} {m : Int} (h0 : 0 ≤ m) (h1 : m < 9223372036854775808) : ∃ h', Kp h h' ∧ Runs Tryz.prog XT 24 [vu 0, vu m, .bool false] h (.ret (vi m)) h' := by
  suffices hs : ∃ r h', Runs Tryz.prog XT 24 [vu 0, vu m, .bool false] h r h' ∧ (r = .ret (vi m) ∧ Kp h h') by
    obtain ⟨r, h', h1, rfl, h2⟩ := hs
    exact ⟨h', h2, h1⟩
  refine Runs.ends rfl Tryz.func24 rfl ?_
  generalize hE : Env.init [vu 0, vu m, .bool false] Tryz.f24.ntmps = e
  have e0 : e.get 0 = vu 0 := by subst hE; rfl
  have e1 : e.get 1 = vu m := by subst hE; rfl
  have e2 : e.get 2 = .bool false := by subst hE; rfl
  have es : e.sz = 31 := by subst hE; rfl
  clear hE
  have c1 : ¬ m > 9223372036854775807 := by omega
  have c0 : ¬ (0 : Int) > 0 := by omega
  have hc : ∀ (h : Heap) (fr : Nat), convA Tryz.prog h fr 43 2 (vu m) = some (vi m, h) := fun h fr => by
    have u2 : Tryz.prog.underlying 2 = some (.int .i64) := by kernel_rfl
    have uu : Tryz.prog.underlying 43 = some (.int .u64) := by kernel_rfl
    simp only [convA, u2, uu]
    rw [wrap_i (by omega) h1]
  refine W.seqR 0 rfl fun K all hK hall => ?_
  simp (maxSteps := 2000000) (disch := first | assumption | simp [es, Env.sz_put]) only [WO_nil, List.getElem?_cons_zero, List.getElem?_cons_succ, WO_cons, WD_nil, WD_cons, List.nil_append, List.append_nil, List.cons_append, sel, nthO, wantedA_free, wantedA_by, putA_into, putA_no, execA, opv, opvs, ofConst, ofScalar, pureR, newR, skipR, builtinA, Env.get_put, binA, arith, Nat.reduceEqDiff, Nat.reduceAdd, reduceIte, bind2, Heap.bump0, isConst, beq_self_eq_true, Bool.false_eq_true, Bool.or_true, Bool.or_false, Bool.not_true, Bool.not_false, undefA, Option.map_some, and_self, bTF, bFT]
  subst hK; clear hall; try simp only [Then]
  refine W.seqT (W.blockT ?_)
  refine W.seqR 0 rfl fun K all hK hall => ?_
  have g1 : (all[1]?).bind (·.dst) = some 9 := by subst hall; rfl
  have g4 : (all[4]?).bind (·.dst) = some 12 := by subst hall; rfl
  simp (maxSteps := 2000000) (disch := first | assumption | simp [es, Env.sz_put]) only [WO_nil, List.getElem?_cons_zero, List.getElem?_cons_succ, WO_cons, WD_nil, WD_cons, List.nil_append, List.append_nil, List.cons_append, sel, nthO, wantedA_free, wantedA_by, putA_into, putA_no, execA, opv, opvs, ofConst, ofScalar, pureR, newR, skipR, builtinA, Env.get_put, binA, arith, Nat.reduceEqDiff, Nat.reduceAdd, reduceIte, bind2, Heap.bump0, isConst, beq_self_eq_true, Bool.false_eq_true, Bool.or_true, Bool.or_false, Bool.not_true, Bool.not_false, undefA, Option.map_some, and_self, bTF, bFT, e2, g1, g4]
  subst hK; clear hall; try simp only [Then]
  refine W.condF (by simp only [opv, ofConst, ofScalar, Env.get_put, Nat.reduceEqDiff, reduceIte, decide_false]) ?_
  refine W.seqR 0 rfl fun K all hK hall => ?_
  simp (maxSteps := 2000000) (disch := first | assumption | simp [es, Env.sz_put]) only [WO_nil, List.getElem?_cons_zero, List.getElem?_cons_succ, WO_cons, WD_nil, WD_cons, List.nil_append, List.append_nil, List.cons_append, sel, nthO, wantedA_free, wantedA_by, putA_into, putA_no, execA, opv, opvs, ofConst, ofScalar, pureR, newR, skipR, builtinA, Env.get_put, binA, arith, Nat.reduceEqDiff, Nat.reduceAdd, reduceIte, bind2, Heap.bump0, isConst, beq_self_eq_true, Bool.false_eq_true, Bool.or_true, Bool.or_false, Bool.not_true, Bool.not_false, undefA, Option.map_some, and_self, bTF, bFT, e2]
  subst hK; clear hall; try simp only [Then]
  refine W.condF (by simp only [opv, ofConst, ofScalar, Env.get_put, Nat.reduceEqDiff, reduceIte, decide_false]) ?_
  refine W.seqR 0 rfl fun K all hK hall => ?_
  have g2 : (all[2]?).bind (·.dst) = some 25 := by subst hall; rfl
  simp (maxSteps := 2000000) (disch := first | assumption | simp [es, Env.sz_put]) only [WO_nil, List.getElem?_cons_zero, List.getElem?_cons_succ, WO_cons, WD_nil, WD_cons, List.nil_append, List.append_nil, List.cons_append, sel, nthO, wantedA_free, wantedA_by, putA_into, putA_no, execA, opv, opvs, ofConst, ofScalar, pureR, newR, skipR, builtinA, Env.get_put, binA, arith, Nat.reduceEqDiff, Nat.reduceAdd, reduceIte, bind2, Heap.bump0, isConst, beq_self_eq_true, Bool.false_eq_true, Bool.or_true, Bool.or_false, Bool.not_true, Bool.not_false, undefA, Option.map_some, and_self, bTF, bFT, e0, e1, g2, c0, c1, decide_false]
  subst hK; clear hall; try simp only [Then]
  refine W.condF (by simp only [opv, ofConst, ofScalar, Env.get_put, Nat.reduceEqDiff, reduceIte, decide_false]) ?_
  refine W.skip ?_
  simp only [Then, BlockQ, LoopQ, EndsR, Nat.reduceEqDiff, reduceIte]
  refine W.seqR 3 rfl fun K all hK hall => ?_
  simp (maxSteps := 2000000) (disch := first | assumption | simp [es, Env.sz_put]) only [WO_nil, List.getElem?_cons_zero, List.getElem?_cons_succ, WO_cons, WD_nil, WD_cons, List.nil_append, List.append_nil, List.cons_append, sel, nthO, wantedA_free, wantedA_by, putA_into, putA_no, execA, opv, opvs, ofConst, ofScalar, pureR, newR, skipR, builtinA, Env.get_put, binA, arith, Nat.reduceEqDiff, Nat.reduceAdd, reduceIte, bind2, Heap.bump0, isConst, beq_self_eq_true, Bool.false_eq_true, Bool.or_true, Bool.or_false, Bool.not_true, Bool.not_false, undefA, Option.map_some, and_self, bTF, bFT, e1, newR, hc]
  subst hK; clear hall; try simp only [Then]
  refine W.ret ?_
  simp only [Then, BlockQ, LoopQ, EndsR, Nat.reduceEqDiff, reduceIte]
  refine ⟨_, rfl, ?_, Kp.bump h 3⟩
  simp only [oneOf, Env.get_put, Nat.reduceEqDiff, reduceIte]

theorem mul_runs {h : Heap} {x n : Int} (h0 : 0 ≤ x) (h1 : x < 4294967296) (h2 : 0 ≤ n) (h3 : n ≤ 1024) : ∃ h', Kp h h' ∧ Runs Tryz.prog XT 9 [vi x, vi (n * 4294967296)] h (.ret (vi (x * n))) h' := by
  suffices hs : ∃ r h', Runs Tryz.prog XT 9 [vi x, vi (n * 4294967296)] h r h' ∧ (r = .ret (vi (x * n)) ∧ Kp h h') by
    obtain ⟨r, h', h1, rfl, h2⟩ := hs
    exact ⟨h', h2, h1⟩
  have hb : 0 ≤ x * n := Int.mul_nonneg h0 h2
  have hb2 : x * n ≤ 4294967295 * 1024 := Int.mul_le_mul (by omega) h3 h2 (by decide)
  obtain ⟨q, hq⟩ : ∃ q, q = x * n / 4294967296 := ⟨_, rfl⟩
  obtain ⟨r, hr⟩ : ∃ r, r = x * n % 4294967296 := ⟨_, rfl⟩
  have hqr : x * n = q * 4294967296 + r := by omega
  refine Runs.ends rfl Tryz.func9 rfl ?_
  generalize hE : Env.init [vi x, vi (n * 4294967296)] Tryz.f9.ntmps = e
  have e0 : e.get 0 = vi x := by subst hE; rfl
  have e1 : e.get 1 = vi (n * 4294967296) := by subst hE; rfl
  have es : e.sz = 49 := by subst hE; rfl
  clear hE
  obtain ⟨ha, ka, ra⟩ := size_runs (h := h) (n := x) h0 (by omega)
  obtain ⟨hb', kb, rb⟩ := size_runs (h := ha) (n := n * 4294967296) (by omega) (by omega)
  have rc := mul64_runs (h := hb') h0 h1 h2 h3 (show 0 ≤ q by omega) (show q < 4294967296 by omega) (show 0 ≤ r by omega) (show r < 4294967296 by omega) hqr
  have c1 : ¬ x < 0 := by omega
  have c2 : ¬ n * 4294967296 < 0 := by omega
  have u4 : Tryz.prog.underlying 4 = some .bool := by kernel_rfl
  have w1 : IntKind.u64.wrap (r * 4294967296 * 4294967296) = 0 := by
    show (if (false && decide (r * 4294967296 * 4294967296 % 2 ^ 64 ≥ (2 ^ (64 - 1) : Int))) = true then r * 4294967296 * 4294967296 % 2 ^ 64 - 2 ^ 64 else r * 4294967296 * 4294967296 % 2 ^ 64) = _
    rw [Bool.false_and, if_neg (by decide)]
    omega
  have w2 : IntKind.u64.wrap (q * 4294967296) = q * 4294967296 := wrap_u (by omega) (by omega)
  have w3 : r * 4294967296 / 4294967296 = r := by omega
  have w4 := or_u (show 0 ≤ q by omega) (show q < 4294967296 by omega) (show 0 ≤ r by omega) (show r < 4294967296 by omega)
  have w5 : q / 4294967296 = 0 := by omega
  have w6 : ((0 : Int) != 0) = false := rfl
  obtain ⟨hd, kd, rd⟩ := signed_runs (h := hb') (m := x * n) hb (by omega)
  rw [hqr] at rd
  refine W.seqR 0 rfl fun K all hK hall => ?_
  simp (maxSteps := 2000000) (disch := first | assumption | simp [es, Env.sz_put]) only [WO_nil, List.getElem?_cons_zero, List.getElem?_cons_succ, WO_cons, WD_nil, WD_cons, List.nil_append, List.append_nil, List.cons_append, sel, nthO, wantedA_free, wantedA_by, putA_into, putA_no, execA, opv, opvs, ofConst, ofScalar, pureR, newR, skipR, builtinA, Env.get_put, binA, arith, Nat.reduceEqDiff, Nat.reduceAdd, reduceIte, bind2, Heap.bump0, isConst, beq_self_eq_true, Bool.false_eq_true, Bool.or_true, Bool.or_false, Bool.not_true, Bool.not_false, undefA, Option.map_some, and_self, bTF, bFT]
  subst hK; clear hall; try simp only [Then]
  refine W.seqR 0 rfl fun K all hK hall => ?_
  simp (maxSteps := 2000000) (disch := first | assumption | simp [es, Env.sz_put]) only [WO_nil, List.getElem?_cons_zero, List.getElem?_cons_succ, WO_cons, WD_nil, WD_cons, List.nil_append, List.append_nil, List.cons_append, sel, nthO, wantedA_free, wantedA_by, putA_into, putA_no, execA, opv, opvs, ofConst, ofScalar, pureR, newR, skipR, builtinA, Env.get_put, binA, arith, Nat.reduceEqDiff, Nat.reduceAdd, reduceIte, bind2, Heap.bump0, isConst, beq_self_eq_true, Bool.false_eq_true, Bool.or_true, Bool.or_false, Bool.not_true, Bool.not_false, undefA, Option.map_some, and_self, bTF, bFT, e0, e1]
  refine CallK.into (ra) (by simp [es, Env.sz_put]) ?_
  simp (maxSteps := 2000000) (disch := first | assumption | simp [es, Env.sz_put]) only [WO_nil, List.getElem?_cons_zero, List.getElem?_cons_succ, WO_cons, WD_nil, WD_cons, List.nil_append, List.append_nil, List.cons_append, sel, nthO, wantedA_free, wantedA_by, putA_into, putA_no, execA, opv, opvs, ofConst, ofScalar, pureR, newR, skipR, builtinA, Env.get_put, binA, arith, Nat.reduceEqDiff, Nat.reduceAdd, reduceIte, bind2, Heap.bump0, isConst, beq_self_eq_true, Bool.false_eq_true, Bool.or_true, Bool.or_false, Bool.not_true, Bool.not_false, undefA, Option.map_some, and_self, bTF, bFT, e1]
  refine CallK.into (rb) (by simp [es, Env.sz_put]) ?_
  simp (maxSteps := 2000000) (disch := first | assumption | simp [es, Env.sz_put]) only [WO_nil, List.getElem?_cons_zero, List.getElem?_cons_succ, WO_cons, WD_nil, WD_cons, List.nil_append, List.append_nil, List.cons_append, sel, nthO, wantedA_free, wantedA_by, putA_into, putA_no, execA, opv, opvs, ofConst, ofScalar, pureR, newR, skipR, builtinA, Env.get_put, binA, arith, Nat.reduceEqDiff, Nat.reduceAdd, reduceIte, bind2, Heap.bump0, isConst, beq_self_eq_true, Bool.false_eq_true, Bool.or_true, Bool.or_false, Bool.not_true, Bool.not_false, undefA, Option.map_some, and_self, bTF, bFT]
  refine CallK.into (rc) (by simp [es, Env.sz_put]) ?_
  simp (maxSteps := 2000000) (disch := first | assumption | simp [es, Env.sz_put]) only [WO_nil, List.getElem?_cons_zero, List.getElem?_cons_succ, WO_cons, WD_nil, WD_cons, List.nil_append, List.append_nil, List.cons_append, sel, nthO, wantedA_free, wantedA_by, putA_into, putA_no, execA, opv, opvs, ofConst, ofScalar, pureR, newR, skipR, builtinA, Env.get_put, binA, arith, Nat.reduceEqDiff, Nat.reduceAdd, reduceIte, bind2, Heap.bump0, isConst, beq_self_eq_true, Bool.false_eq_true, Bool.or_true, Bool.or_false, Bool.not_true, Bool.not_false, undefA, Option.map_some, and_self, bTF, bFT, nthO, List.getElem?_cons_zero, List.getElem?_cons_succ]
  subst hK; clear hall; try simp only [Then]
  refine W.seqR 0 rfl fun K all hK hall => ?_
  simp (maxSteps := 2000000) (disch := first | assumption | simp [es, Env.sz_put]) only [WO_nil, List.getElem?_cons_zero, List.getElem?_cons_succ, WO_cons, WD_nil, WD_cons, List.nil_append, List.append_nil, List.cons_append, sel, nthO, wantedA_free, wantedA_by, putA_into, putA_no, execA, opv, opvs, ofConst, ofScalar, pureR, newR, skipR, builtinA, Env.get_put, binA, arith, Nat.reduceEqDiff, Nat.reduceAdd, reduceIte, bind2, Heap.bump0, isConst, beq_self_eq_true, Bool.false_eq_true, Bool.or_true, Bool.or_false, Bool.not_true, Bool.not_false, undefA, Option.map_some, and_self, bTF, bFT, e0, e1, c1, c2, decide_false, eqA, u4]
  subst hK; clear hall; try simp only [Then]
  refine W.seqR 0 rfl fun K all hK hall => ?_
  simp (maxSteps := 2000000) (disch := first | assumption | simp [es, Env.sz_put]) only [WO_nil, List.getElem?_cons_zero, List.getElem?_cons_succ, WO_cons, WD_nil, WD_cons, List.nil_append, List.append_nil, List.cons_append, sel, nthO, wantedA_free, wantedA_by, putA_into, putA_no, execA, opv, opvs, ofConst, ofScalar, pureR, newR, skipR, builtinA, Env.get_put, binA, arith, Nat.reduceEqDiff, Nat.reduceAdd, reduceIte, bind2, Heap.bump0, isConst, beq_self_eq_true, Bool.false_eq_true, Bool.or_true, Bool.or_false, Bool.not_true, Bool.not_false, undefA, Option.map_some, and_self, bTF, bFT, shl_u, w1, w6]
  subst hK; clear hall; try simp only [Then]
  refine W.seqR 0 rfl fun K all hK hall => ?_
  simp (maxSteps := 2000000) (disch := first | assumption | simp [es, Env.sz_put]) only [WO_nil, List.getElem?_cons_zero, List.getElem?_cons_succ, WO_cons, WD_nil, WD_cons, List.nil_append, List.append_nil, List.cons_append, sel, nthO, wantedA_free, wantedA_by, putA_into, putA_no, execA, opv, opvs, ofConst, ofScalar, pureR, newR, skipR, builtinA, Env.get_put, binA, arith, Nat.reduceEqDiff, Nat.reduceAdd, reduceIte, bind2, Heap.bump0, isConst, beq_self_eq_true, Bool.false_eq_true, Bool.or_true, Bool.or_false, Bool.not_true, Bool.not_false, undefA, Option.map_some, and_self, bTF, bFT, shl_u, w2, shr_u, w3, w4, w5]
  subst hK; clear hall; try simp only [Then]
  refine W.seqA ?_
  refine W.seqR 0 rfl fun K all hK hall => ?_
  have g1 : (all[1]?).bind (·.dst) = some 34 := by subst hall; rfl
  simp (maxSteps := 2000000) (disch := first | assumption | simp [es, Env.sz_put]) only [WO_nil, List.getElem?_cons_zero, List.getElem?_cons_succ, WO_cons, WD_nil, WD_cons, List.nil_append, List.append_nil, List.cons_append, sel, nthO, wantedA_free, wantedA_by, putA_into, putA_no, execA, opv, opvs, ofConst, ofScalar, pureR, newR, skipR, builtinA, Env.get_put, binA, arith, Nat.reduceEqDiff, Nat.reduceAdd, reduceIte, bind2, Heap.bump0, isConst, beq_self_eq_true, Bool.false_eq_true, Bool.or_true, Bool.or_false, Bool.not_true, Bool.not_false, undefA, Option.map_some, and_self, bTF, bFT, g1]
  subst hK; clear hall; try simp only [Then]
  refine W.seqT (W.condF (by simp only [opv, ofConst, ofScalar, Env.get_put, Nat.reduceEqDiff, reduceIte, decide_false]) ?_)
  refine W.skip ?_
  simp only [Then]
  refine W.seqR 0 rfl fun K all hK hall => ?_
  simp (maxSteps := 2000000) (disch := first | assumption | simp [es, Env.sz_put]) only [WO_nil, List.getElem?_cons_zero, List.getElem?_cons_succ, WO_cons, WD_nil, WD_cons, List.nil_append, List.append_nil, List.cons_append, sel, nthO, wantedA_free, wantedA_by, putA_into, putA_no, execA, opv, opvs, ofConst, ofScalar, pureR, newR, skipR, builtinA, Env.get_put, binA, arith, Nat.reduceEqDiff, Nat.reduceAdd, reduceIte, bind2, Heap.bump0, isConst, beq_self_eq_true, Bool.false_eq_true, Bool.or_true, Bool.or_false, Bool.not_true, Bool.not_false, undefA, Option.map_some, and_self, bTF, bFT]
  refine CallK.into (rd) (by simp [es, Env.sz_put]) ?_
  simp (maxSteps := 2000000) (disch := first | assumption | simp [es, Env.sz_put]) only [WO_nil, List.getElem?_cons_zero, List.getElem?_cons_succ, WO_cons, WD_nil, WD_cons, List.nil_append, List.append_nil, List.cons_append, sel, nthO, wantedA_free, wantedA_by, putA_into, putA_no, execA, opv, opvs, ofConst, ofScalar, pureR, newR, skipR, builtinA, Env.get_put, binA, arith, Nat.reduceEqDiff, Nat.reduceAdd, reduceIte, bind2, Heap.bump0, isConst, beq_self_eq_true, Bool.false_eq_true, Bool.or_true, Bool.or_false, Bool.not_true, Bool.not_false, undefA, Option.map_some, and_self, bTF, bFT]
  subst hK; clear hall; try simp only [Then]
  refine W.ret ?_
  simp only [Then, BlockQ, LoopQ, EndsR, Nat.reduceEqDiff, reduceIte]
  refine ⟨_, rfl, ?_, (ka.trans kb).trans kd⟩
  simp only [oneOf, Env.get_put, Nat.reduceEqDiff, reduceIte]
  rw [hqr]

/-- Where a place lies, of n. -/
def plcI (a n : Int) : Int := a % 4294967296 * n / 4294967296

theorem place_runs {h : Heap} {a n : Int} (h2 : 1 ≤ n) (h3 : n ≤ 1024) : ∃ h', Kp h h' ∧ Runs Tryz.prog XT 7 [vi a, vi n] h (.ret (vi (plcI a n))) h' := by
  suffices hs : ∃ r h', Runs Tryz.prog XT 7 [vi a, vi n] h r h' ∧ (r = .ret (vi (plcI a n)) ∧ Kp h h') by
    obtain ⟨r, h', h1, rfl, h2⟩ := hs
    exact ⟨h', h2, h1⟩
  refine Runs.ends rfl Tryz.func7 rfl ?_
  generalize hE : Env.init [vi a, vi n] Tryz.f7.ntmps = e
  have e0 : e.get 0 = vi a := by subst hE; rfl
  have e1 : e.get 1 = vi n := by subst hE; rfl
  have es : e.sz = 11 := by subst hE; rfl
  clear hE
  have ra := of_runs (h := h) (n := n) (by omega) (by omega)
  obtain ⟨hb, kb, rb⟩ := mul_runs (h := h) (x := a % 4294967296) (n := n) (by omega) (by omega) (by omega) h3
  have rc := floor_runs (h := hb) (n := a % 4294967296 * n)
  refine W.seqR 0 rfl fun K all hK hall => ?_
  simp (maxSteps := 2000000) (disch := first | assumption | simp [es, Env.sz_put]) only [WO_nil, List.getElem?_cons_zero, List.getElem?_cons_succ, WO_cons, WD_nil, WD_cons, List.nil_append, List.append_nil, List.cons_append, sel, nthO, wantedA_free, wantedA_by, putA_into, putA_no, execA, opv, opvs, ofConst, ofScalar, pureR, newR, skipR, builtinA, Env.get_put, binA, arith, Nat.reduceEqDiff, Nat.reduceAdd, reduceIte, bind2, Heap.bump0, isConst, beq_self_eq_true, Bool.false_eq_true, Bool.or_true, Bool.or_false, Bool.not_true, Bool.not_false, undefA, Option.map_some, and_self, bTF, bFT]
  subst hK; clear hall; try simp only [Then]
  refine W.seqR 0 rfl fun K all hK hall => ?_
  simp (maxSteps := 2000000) (disch := first | assumption | simp [es, Env.sz_put]) only [WO_nil, List.getElem?_cons_zero, List.getElem?_cons_succ, WO_cons, WD_nil, WD_cons, List.nil_append, List.append_nil, List.cons_append, sel, nthO, wantedA_free, wantedA_by, putA_into, putA_no, execA, opv, opvs, ofConst, ofScalar, pureR, newR, skipR, builtinA, Env.get_put, binA, arith, Nat.reduceEqDiff, Nat.reduceAdd, reduceIte, bind2, Heap.bump0, isConst, beq_self_eq_true, Bool.false_eq_true, Bool.or_true, Bool.or_false, Bool.not_true, Bool.not_false, undefA, Option.map_some, and_self, bTF, bFT, e0, e1, mask_i]
  refine CallK.into (ra) (by simp [es, Env.sz_put]) ?_
  simp (maxSteps := 2000000) (disch := first | assumption | simp [es, Env.sz_put]) only [WO_nil, List.getElem?_cons_zero, List.getElem?_cons_succ, WO_cons, WD_nil, WD_cons, List.nil_append, List.append_nil, List.cons_append, sel, nthO, wantedA_free, wantedA_by, putA_into, putA_no, execA, opv, opvs, ofConst, ofScalar, pureR, newR, skipR, builtinA, Env.get_put, binA, arith, Nat.reduceEqDiff, Nat.reduceAdd, reduceIte, bind2, Heap.bump0, isConst, beq_self_eq_true, Bool.false_eq_true, Bool.or_true, Bool.or_false, Bool.not_true, Bool.not_false, undefA, Option.map_some, and_self, bTF, bFT]
  refine CallK.into (rb) (by simp [es, Env.sz_put]) ?_
  simp (maxSteps := 2000000) (disch := first | assumption | simp [es, Env.sz_put]) only [WO_nil, List.getElem?_cons_zero, List.getElem?_cons_succ, WO_cons, WD_nil, WD_cons, List.nil_append, List.append_nil, List.cons_append, sel, nthO, wantedA_free, wantedA_by, putA_into, putA_no, execA, opv, opvs, ofConst, ofScalar, pureR, newR, skipR, builtinA, Env.get_put, binA, arith, Nat.reduceEqDiff, Nat.reduceAdd, reduceIte, bind2, Heap.bump0, isConst, beq_self_eq_true, Bool.false_eq_true, Bool.or_true, Bool.or_false, Bool.not_true, Bool.not_false, undefA, Option.map_some, and_self, bTF, bFT]
  refine CallK.into (rc) (by simp [es, Env.sz_put]) ?_
  simp (maxSteps := 2000000) (disch := first | assumption | simp [es, Env.sz_put]) only [WO_nil, List.getElem?_cons_zero, List.getElem?_cons_succ, WO_cons, WD_nil, WD_cons, List.nil_append, List.append_nil, List.cons_append, sel, nthO, wantedA_free, wantedA_by, putA_into, putA_no, execA, opv, opvs, ofConst, ofScalar, pureR, newR, skipR, builtinA, Env.get_put, binA, arith, Nat.reduceEqDiff, Nat.reduceAdd, reduceIte, bind2, Heap.bump0, isConst, beq_self_eq_true, Bool.false_eq_true, Bool.or_true, Bool.or_false, Bool.not_true, Bool.not_false, undefA, Option.map_some, and_self, bTF, bFT]
  subst hK; clear hall; try simp only [Then]
  refine W.ret ?_
  simp only [Then, BlockQ, LoopQ, EndsR, Nat.reduceEqDiff, reduceIte]
  refine ⟨_, rfl, ?_, kb⟩
  simp only [oneOf, Env.get_put, Nat.reduceEqDiff, reduceIte]
  rfl

end Go.Proofs.YtahdafekballcaaGreat.AM
