/-
  The colours of a texture: the document's own whole numbers, products, places. Conditions: none.
-/
import Derived.Test.YtahdafekballcaaGreatTx2
namespace Go.Proofs.YtahdafekballcaaGreat.AM
open Go Go.Proofs
set_option linter.unusedVariables false
set_option linter.unusedSimpArgs false

theorem wrap_un {n : Int} (h0 : -18446744073709551616 ≤ n) (h1 : n < 0) : IntKind.u64.wrap n = n + 18446744073709551616 := by
  show (if (false && decide (n % 2 ^ 64 ≥ (2 ^ (64 - 1) : Int))) = true then n % 2 ^ 64 - 2 ^ 64 else n % 2 ^ 64) = _
  rw [Bool.false_and, if_neg (by decide)]
  omega

theorem wrap_up {n : Int} (h0 : 9223372036854775808 ≤ n) (h1 : n < 18446744073709551616) : IntKind.i64.wrap n = n - 18446744073709551616 := by
  rw [IntKind.wrap_i64]; omega

theorem rsize_pos {h : Heap} {n : Int} (h0 : 0 ≤ n) (h1 : n < 9223372036854775808) : ∃ h', Kp h h' ∧ Runs Tryz.prog XT 29 [vi n] h (.ret (vu n)) h' := by
  suffices hs : ∃ o h', Runs Tryz.prog XT 29 [vi n] h o h' ∧ (o = .ret (vu n) ∧ Kp h h') by
    obtain ⟨o, h', h1, rfl, h2⟩ := hs
    exact ⟨h', h2, h1⟩
  refine Runs.ends rfl Tryz.func29 rfl ?_
  generalize hE : Env.init [vi n] Tryz.f29.ntmps = e
  have e0 : e.get 0 = vi n := by subst hE; rfl
  have es : e.sz = 10 := by subst hE; rfl
  clear hE
  have c1 : ¬ n < 0 := by omega
  have hc : ∀ (h : Heap) (fr : Nat), convA Tryz.prog h fr 2 43 (vi n) = some (vu n, h) := fun h fr => by
    have u2 : Tryz.prog.underlying 2 = some (.int .i64) := by kernel_rfl
    have uu : Tryz.prog.underlying 43 = some (.int .u64) := by kernel_rfl
    simp only [convA, u2, uu]
    rw [wrap_u h0 (by omega)]
  refine W.seqR 0 rfl fun K all hK hall => ?_
  simp (maxSteps := 2000000) (disch := first | assumption | simp [es, Env.sz_put]) only [WO_nil, List.getElem?_cons_zero, List.getElem?_cons_succ, WO_cons, WD_nil, WD_cons, List.nil_append, List.append_nil, List.cons_append, sel, nthO, wantedA_free, wantedA_by, putA_into, putA_no, execA, opv, opvs, ofConst, ofScalar, pureR, newR, skipR, builtinA, Env.get_put, binA, arith, Nat.reduceEqDiff, Nat.reduceAdd, reduceIte, bind2, Heap.bump0, isConst, beq_self_eq_true, Bool.false_eq_true, Bool.or_true, Bool.or_false, Bool.not_true, Bool.not_false, undefA, Option.map_some, and_self, bTF, bFT]
  subst hK; clear hall; try simp only [Then]
  refine W.seqA ?_
  refine W.seqR 0 rfl fun K all hK hall => ?_
  simp (maxSteps := 2000000) (disch := first | assumption | simp [es, Env.sz_put]) only [WO_nil, List.getElem?_cons_zero, List.getElem?_cons_succ, WO_cons, WD_nil, WD_cons, List.nil_append, List.append_nil, List.cons_append, sel, nthO, wantedA_free, wantedA_by, putA_into, putA_no, execA, opv, opvs, ofConst, ofScalar, pureR, newR, skipR, builtinA, Env.get_put, binA, arith, Nat.reduceEqDiff, Nat.reduceAdd, reduceIte, bind2, Heap.bump0, isConst, beq_self_eq_true, Bool.false_eq_true, Bool.or_true, Bool.or_false, Bool.not_true, Bool.not_false, undefA, Option.map_some, and_self, bTF, bFT, e0]
  subst hK; clear hall; try simp only [Then]
  refine W.seqT (W.condF (by simp only [opv, ofConst, ofScalar, Env.get_put, Nat.reduceEqDiff, reduceIte, c1, decide_false]) ?_)
  refine W.skip ?_
  simp only [Then]
  refine W.seqR 3 rfl fun K all hK hall => ?_
  simp (maxSteps := 2000000) (disch := first | assumption | simp [es, Env.sz_put]) only [WO_nil, List.getElem?_cons_zero, List.getElem?_cons_succ, WO_cons, WD_nil, WD_cons, List.nil_append, List.append_nil, List.cons_append, sel, nthO, wantedA_free, wantedA_by, putA_into, putA_no, execA, opv, opvs, ofConst, ofScalar, pureR, newR, skipR, builtinA, Env.get_put, binA, arith, Nat.reduceEqDiff, Nat.reduceAdd, reduceIte, bind2, Heap.bump0, isConst, beq_self_eq_true, Bool.false_eq_true, Bool.or_true, Bool.or_false, Bool.not_true, Bool.not_false, undefA, Option.map_some, and_self, bTF, bFT, e0, newR, hc]
  subst hK; clear hall; try simp only [Then]
  refine W.ret ?_
  simp only [Then, BlockQ, LoopQ, EndsR, Nat.reduceEqDiff, reduceIte]
  refine ⟨_, rfl, ?_, Kp.bump h 3⟩
  simp only [oneOf, Env.get_put, Nat.reduceEqDiff, reduceIte]

theorem rsize_neg {h : Heap} {n : Int} (h0 : n < 0) (h1 : -9223372036854775808 ≤ n) : ∃ h', Kp h h' ∧ Runs Tryz.prog XT 29 [vi n] h (.ret (vu (-n))) h' := by
  suffices hs : ∃ o h', Runs Tryz.prog XT 29 [vi n] h o h' ∧ (o = .ret (vu (-n)) ∧ Kp h h') by
    obtain ⟨o, h', h1, rfl, h2⟩ := hs
    exact ⟨h', h2, h1⟩
  refine Runs.ends rfl Tryz.func29 rfl ?_
  generalize hE : Env.init [vi n] Tryz.f29.ntmps = e
  have e0 : e.get 0 = vi n := by subst hE; rfl
  have es : e.sz = 10 := by subst hE; rfl
  clear hE
  have w1 : IntKind.u64.wrap (0 - (n + 18446744073709551616)) = -n := by
    rw [wrap_un (by omega) (by omega)]
    omega
  have hc : ∀ (h : Heap) (fr : Nat), convA Tryz.prog h fr 2 43 (vi n) = some (vu (n + 18446744073709551616), h) := fun h fr => by
    have u2 : Tryz.prog.underlying 2 = some (.int .i64) := by kernel_rfl
    have uu : Tryz.prog.underlying 43 = some (.int .u64) := by kernel_rfl
    simp only [convA, u2, uu]
    rw [wrap_un (by omega) h0]
  refine W.seqR 0 rfl fun K all hK hall => ?_
  simp (maxSteps := 2000000) (disch := first | assumption | simp [es, Env.sz_put]) only [WO_nil, List.getElem?_cons_zero, List.getElem?_cons_succ, WO_cons, WD_nil, WD_cons, List.nil_append, List.append_nil, List.cons_append, sel, nthO, wantedA_free, wantedA_by, putA_into, putA_no, execA, opv, opvs, ofConst, ofScalar, pureR, newR, skipR, builtinA, Env.get_put, binA, arith, Nat.reduceEqDiff, Nat.reduceAdd, reduceIte, bind2, Heap.bump0, isConst, beq_self_eq_true, Bool.false_eq_true, Bool.or_true, Bool.or_false, Bool.not_true, Bool.not_false, undefA, Option.map_some, and_self, bTF, bFT]
  subst hK; clear hall; try simp only [Then]
  refine W.seqA ?_
  refine W.seqR 0 rfl fun K all hK hall => ?_
  simp (maxSteps := 2000000) (disch := first | assumption | simp [es, Env.sz_put]) only [WO_nil, List.getElem?_cons_zero, List.getElem?_cons_succ, WO_cons, WD_nil, WD_cons, List.nil_append, List.append_nil, List.cons_append, sel, nthO, wantedA_free, wantedA_by, putA_into, putA_no, execA, opv, opvs, ofConst, ofScalar, pureR, newR, skipR, builtinA, Env.get_put, binA, arith, Nat.reduceEqDiff, Nat.reduceAdd, reduceIte, bind2, Heap.bump0, isConst, beq_self_eq_true, Bool.false_eq_true, Bool.or_true, Bool.or_false, Bool.not_true, Bool.not_false, undefA, Option.map_some, and_self, bTF, bFT, e0]
  subst hK; clear hall; try simp only [Then]
  refine W.seqT (W.condT (by simp only [opv, ofConst, ofScalar, Env.get_put, Nat.reduceEqDiff, reduceIte, h0, decide_true]) ?_)
  refine W.seqR 4 rfl fun K all hK hall => ?_
  simp (maxSteps := 2000000) (disch := first | assumption | simp [es, Env.sz_put]) only [WO_nil, List.getElem?_cons_zero, List.getElem?_cons_succ, WO_cons, WD_nil, WD_cons, List.nil_append, List.append_nil, List.cons_append, sel, nthO, wantedA_free, wantedA_by, putA_into, putA_no, execA, opv, opvs, ofConst, ofScalar, pureR, newR, skipR, builtinA, Env.get_put, binA, arith, Nat.reduceEqDiff, Nat.reduceAdd, reduceIte, bind2, Heap.bump0, isConst, beq_self_eq_true, Bool.false_eq_true, Bool.or_true, Bool.or_false, Bool.not_true, Bool.not_false, undefA, Option.map_some, and_self, bTF, bFT, e0, newR, hc, w1]
  subst hK; clear hall; try simp only [Then]
  refine W.ret ?_
  simp only [Then, BlockQ, LoopQ, EndsR, Nat.reduceEqDiff, reduceIte]
  refine ⟨_, rfl, ?_, Kp.bump h 4⟩
  simp only [oneOf, Env.get_put, Nat.reduceEqDiff, reduceIte]

theorem rprod_runs {h : Heap} {x n q r : Int} (h0 : 0 ≤ x) (h1 : x < 4294967296) (h2 : 0 ≤ n) (h3 : n ≤ 1024) (hq : 0 ≤ q) (hq2 : q < 4294967296) (hr : 0 ≤ r) (hr2 : r < 4294967296) (hqr : x * n = q * 4294967296 + r) : Runs Tryz.prog XT 31 [vu x, vu (n * 4294967296)] h (.ret (.tup [vu q, vu (r * 4294967296)])) h := by
  suffices hs : ∃ o h', Runs Tryz.prog XT 31 [vu x, vu (n * 4294967296)] h o h' ∧ (o = .ret (.tup [vu q, vu (r * 4294967296)]) ∧ h' = h) by
    obtain ⟨o, h', h1, rfl, rfl⟩ := hs
    exact h1
  refine Runs.ends rfl Tryz.func31 rfl ?_
  generalize hE : Env.init [vu x, vu (n * 4294967296)] Tryz.f31.ntmps = e
  have e0 : e.get 0 = vu x := by subst hE; rfl
  have e1 : e.get 1 = vu (n * 4294967296) := by subst hE; rfl
  have es : e.sz = 50 := by subst hE; rfl
  clear hE
  have m1 : x % 4294967296 = x := by omega
  have m2 : x / 4294967296 = 0 := by omega
  have m3 : n * 4294967296 % 4294967296 = 0 := by omega
  have m4 : n * 4294967296 / 4294967296 = n := by omega
  have w0 : IntKind.u64.wrap 0 = 0 := rfl
  have hb : 0 ≤ x * n := Int.mul_nonneg h0 h2
  have w1 : IntKind.u64.wrap (x * n) = x * n := wrap_u hb (by omega)
  have w2 : x * n / 4294967296 = q := by omega
  have w3 : IntKind.u64.wrap q = q := wrap_u hq (by omega)
  have w4 : IntKind.u64.wrap (x * n * 4294967296) = r * 4294967296 := by
    rw [hqr]
    show (if (false && decide ((q * 4294967296 + r) * 4294967296 % 2 ^ 64 ≥ (2 ^ (64 - 1) : Int))) = true then (q * 4294967296 + r) * 4294967296 % 2 ^ 64 - 2 ^ 64 else (q * 4294967296 + r) * 4294967296 % 2 ^ 64) = _
    rw [Bool.false_and, if_neg (by decide)]
    omega
  have w5 : IntKind.u64.wrap (r * 4294967296) = r * 4294967296 := wrap_u (by omega) (by omega)
  refine W.seqR 0 rfl fun K all hK hall => ?_
  simp (maxSteps := 2000000) (disch := first | assumption | simp [es, Env.sz_put]) only [WO_nil, List.getElem?_cons_zero, List.getElem?_cons_succ, WO_cons, WD_nil, WD_cons, List.nil_append, List.append_nil, List.cons_append, sel, nthO, wantedA_free, wantedA_by, putA_into, putA_no, execA, opv, opvs, ofConst, ofScalar, pureR, newR, skipR, builtinA, Env.get_put, binA, arith, Nat.reduceEqDiff, Nat.reduceAdd, reduceIte, bind2, Heap.bump0, isConst, beq_self_eq_true, Bool.false_eq_true, Bool.or_true, Bool.or_false, Bool.not_true, Bool.not_false, undefA, Option.map_some, and_self, bTF, bFT]
  subst hK; clear hall; try simp only [Then]
  refine W.seqR 0 rfl fun K all hK hall => ?_
  simp (maxSteps := 2000000) (disch := first | assumption | simp [es, Env.sz_put]) only [WO_nil, List.getElem?_cons_zero, List.getElem?_cons_succ, WO_cons, WD_nil, WD_cons, List.nil_append, List.append_nil, List.cons_append, sel, nthO, wantedA_free, wantedA_by, putA_into, putA_no, execA, opv, opvs, ofConst, ofScalar, pureR, newR, skipR, builtinA, Env.get_put, binA, arith, Nat.reduceEqDiff, Nat.reduceAdd, reduceIte, bind2, Heap.bump0, isConst, beq_self_eq_true, Bool.false_eq_true, Bool.or_true, Bool.or_false, Bool.not_true, Bool.not_false, undefA, Option.map_some, and_self, bTF, bFT, e0, shr_u, mask_u, m1, m2]
  subst hK; clear hall; try simp only [Then]
  refine W.seqR 0 rfl fun K all hK hall => ?_
  simp (maxSteps := 2000000) (disch := first | assumption | simp [es, Env.sz_put]) only [WO_nil, List.getElem?_cons_zero, List.getElem?_cons_succ, WO_cons, WD_nil, WD_cons, List.nil_append, List.append_nil, List.cons_append, sel, nthO, wantedA_free, wantedA_by, putA_into, putA_no, execA, opv, opvs, ofConst, ofScalar, pureR, newR, skipR, builtinA, Env.get_put, binA, arith, Nat.reduceEqDiff, Nat.reduceAdd, reduceIte, bind2, Heap.bump0, isConst, beq_self_eq_true, Bool.false_eq_true, Bool.or_true, Bool.or_false, Bool.not_true, Bool.not_false, undefA, Option.map_some, and_self, bTF, bFT, e1, shr_u, mask_u, m3, m4]
  subst hK; clear hall; try simp only [Then]
  refine W.seqR 0 rfl fun K all hK hall => ?_
  simp (maxSteps := 2000000) (disch := first | assumption | simp [es, Env.sz_put]) only [WO_nil, List.getElem?_cons_zero, List.getElem?_cons_succ, WO_cons, WD_nil, WD_cons, List.nil_append, List.append_nil, List.cons_append, sel, nthO, wantedA_free, wantedA_by, putA_into, putA_no, execA, opv, opvs, ofConst, ofScalar, pureR, newR, skipR, builtinA, Env.get_put, binA, arith, Nat.reduceEqDiff, Nat.reduceAdd, reduceIte, bind2, Heap.bump0, isConst, beq_self_eq_true, Bool.false_eq_true, Bool.or_true, Bool.or_false, Bool.not_true, Bool.not_false, undefA, Option.map_some, and_self, bTF, bFT, Int.mul_zero, w0]
  subst hK; clear hall; try simp only [Then]
  refine W.seqR 0 rfl fun K all hK hall => ?_
  simp (maxSteps := 2000000) (disch := first | assumption | simp [es, Env.sz_put]) only [WO_nil, List.getElem?_cons_zero, List.getElem?_cons_succ, WO_cons, WD_nil, WD_cons, List.nil_append, List.append_nil, List.cons_append, sel, nthO, wantedA_free, wantedA_by, putA_into, putA_no, execA, opv, opvs, ofConst, ofScalar, pureR, newR, skipR, builtinA, Env.get_put, binA, arith, Nat.reduceEqDiff, Nat.reduceAdd, reduceIte, bind2, Heap.bump0, isConst, beq_self_eq_true, Bool.false_eq_true, Bool.or_true, Bool.or_false, Bool.not_true, Bool.not_false, undefA, Option.map_some, and_self, bTF, bFT, Int.mul_zero, Int.zero_mul, w0, shr_u, Int.zero_ediv, Int.add_zero]
  subst hK; clear hall; try simp only [Then]
  refine W.seqR 0 rfl fun K all hK hall => ?_
  simp (maxSteps := 2000000) (disch := first | assumption | simp [es, Env.sz_put]) only [WO_nil, List.getElem?_cons_zero, List.getElem?_cons_succ, WO_cons, WD_nil, WD_cons, List.nil_append, List.append_nil, List.cons_append, sel, nthO, wantedA_free, wantedA_by, putA_into, putA_no, execA, opv, opvs, ofConst, ofScalar, pureR, newR, skipR, builtinA, Env.get_put, binA, arith, Nat.reduceEqDiff, Nat.reduceAdd, reduceIte, bind2, Heap.bump0, isConst, beq_self_eq_true, Bool.false_eq_true, Bool.or_true, Bool.or_false, Bool.not_true, Bool.not_false, undefA, Option.map_some, and_self, bTF, bFT, w1, mask_u, Int.zero_emod, Int.add_zero]
  subst hK; clear hall; try simp only [Then]
  refine W.seqR 0 rfl fun K all hK hall => ?_
  simp (maxSteps := 2000000) (disch := first | assumption | simp [es, Env.sz_put]) only [WO_nil, List.getElem?_cons_zero, List.getElem?_cons_succ, WO_cons, WD_nil, WD_cons, List.nil_append, List.append_nil, List.cons_append, sel, nthO, wantedA_free, wantedA_by, putA_into, putA_no, execA, opv, opvs, ofConst, ofScalar, pureR, newR, skipR, builtinA, Env.get_put, binA, arith, Nat.reduceEqDiff, Nat.reduceAdd, reduceIte, bind2, Heap.bump0, isConst, beq_self_eq_true, Bool.false_eq_true, Bool.or_true, Bool.or_false, Bool.not_true, Bool.not_false, undefA, Option.map_some, and_self, bTF, bFT, Int.zero_mul, w0, shr_u, shl_u, mask_u, Int.zero_ediv, Int.zero_emod, Int.add_zero, Int.zero_add, w2, w3, w4, w5]
  subst hK; clear hall; try simp only [Then]
  refine W.ret ?_
  simp only [Then, BlockQ, LoopQ, EndsR, Nat.reduceEqDiff, reduceIte]
  refine ⟨_, rfl, ?_, trivial⟩
  simp only [oneOf, Env.get_put, Nat.reduceEqDiff, reduceIte]

theorem rin_pos {h : Heap} {m : Int} {b : Bool} (h0 : 0 ≤ m) (h1 : m < 9223372036854775808) : ∃ h', Kp h h' ∧ Runs Tryz.prog XT 30 [vu 0, vu m, .bool false, .bool b] h (.ret (vi m)) h' := by
  suffices hs : ∃ o h', Runs Tryz.prog XT 30 [vu 0, vu m, .bool false, .bool b] h o h' ∧ (o = .ret (vi m) ∧ Kp h h') by
    obtain ⟨o, h', h1, rfl, h2⟩ := hs
    exact ⟨h', h2, h1⟩
  refine Runs.ends rfl Tryz.func30 rfl ?_
  generalize hE : Env.init [vu 0, vu m, .bool false, .bool b] Tryz.f30.ntmps = e
  have e0 : e.get 0 = vu 0 := by subst hE; rfl
  have e1 : e.get 1 = vu m := by subst hE; rfl
  have e2 : e.get 2 = .bool false := by subst hE; rfl
  have e3 : e.get 3 = .bool b := by subst hE; rfl
  have es : e.sz = 37 := by subst hE; rfl
  clear hE
  have c0 : ¬ (0 : Int) > 0 := by omega
  have c1 : ¬ m > 9223372036854775807 := by omega
  have hc : ∀ (h : Heap) (fr : Nat), convA Tryz.prog h fr 43 2 (vu m) = some (vi m, h) := fun h fr => by
    have u2 : Tryz.prog.underlying 2 = some (.int .i64) := by kernel_rfl
    have uu : Tryz.prog.underlying 43 = some (.int .u64) := by kernel_rfl
    simp only [convA, u2, uu]
    rw [wrap_i (by omega) h1]
  refine W.seqR 0 rfl fun K all hK hall => ?_
  simp (maxSteps := 2000000) (disch := first | assumption | simp [es, Env.sz_put]) only [WO_nil, List.getElem?_cons_zero, List.getElem?_cons_succ, WO_cons, WD_nil, WD_cons, List.nil_append, List.append_nil, List.cons_append, sel, nthO, wantedA_free, wantedA_by, putA_into, putA_no, execA, opv, opvs, ofConst, ofScalar, pureR, newR, skipR, builtinA, Env.get_put, binA, arith, Nat.reduceEqDiff, Nat.reduceAdd, reduceIte, bind2, Heap.bump0, isConst, beq_self_eq_true, Bool.false_eq_true, Bool.or_true, Bool.or_false, Bool.not_true, Bool.not_false, undefA, Option.map_some, and_self, bTF, bFT]
  subst hK; clear hall; try simp only [Then]
  refine W.seqA ?_
  refine W.seqR 0 rfl fun K all hK hall => ?_
  have g1 : (all[1]?).bind (·.dst) = some 10 := by subst hall; rfl
  simp (maxSteps := 2000000) (disch := first | assumption | simp [es, Env.sz_put]) only [WO_nil, List.getElem?_cons_zero, List.getElem?_cons_succ, WO_cons, WD_nil, WD_cons, List.nil_append, List.append_nil, List.cons_append, sel, nthO, wantedA_free, wantedA_by, putA_into, putA_no, execA, opv, opvs, ofConst, ofScalar, pureR, newR, skipR, builtinA, Env.get_put, binA, arith, Nat.reduceEqDiff, Nat.reduceAdd, reduceIte, bind2, Heap.bump0, isConst, beq_self_eq_true, Bool.false_eq_true, Bool.or_true, Bool.or_false, Bool.not_true, Bool.not_false, undefA, Option.map_some, and_self, bTF, bFT, e2, g1]
  subst hK; clear hall; try simp only [Then]
  refine W.seqT (W.condF (by simp only [opv, ofConst, ofScalar, Env.get_put, Nat.reduceEqDiff, reduceIte, ]) ?_)
  refine W.skip ?_
  simp only [Then]
  refine W.seqA ?_
  refine W.seqR 0 rfl fun K all hK hall => ?_
  simp (maxSteps := 2000000) (disch := first | assumption | simp [es, Env.sz_put]) only [WO_nil, List.getElem?_cons_zero, List.getElem?_cons_succ, WO_cons, WD_nil, WD_cons, List.nil_append, List.append_nil, List.cons_append, sel, nthO, wantedA_free, wantedA_by, putA_into, putA_no, execA, opv, opvs, ofConst, ofScalar, pureR, newR, skipR, builtinA, Env.get_put, binA, arith, Nat.reduceEqDiff, Nat.reduceAdd, reduceIte, bind2, Heap.bump0, isConst, beq_self_eq_true, Bool.false_eq_true, Bool.or_true, Bool.or_false, Bool.not_true, Bool.not_false, undefA, Option.map_some, and_self, bTF, bFT, e2]
  subst hK; clear hall; try simp only [Then]
  refine W.seqT (W.condF (by simp only [opv, ofConst, ofScalar, Env.get_put, Nat.reduceEqDiff, reduceIte, ]) ?_)
  refine W.skip ?_
  simp only [Then]
  refine W.seqA ?_
  refine W.seqR 0 rfl fun K all hK hall => ?_
  have g2 : (all[2]?).bind (·.dst) = some 31 := by subst hall; rfl
  simp (maxSteps := 2000000) (disch := first | assumption | simp [es, Env.sz_put]) only [WO_nil, List.getElem?_cons_zero, List.getElem?_cons_succ, WO_cons, WD_nil, WD_cons, List.nil_append, List.append_nil, List.cons_append, sel, nthO, wantedA_free, wantedA_by, putA_into, putA_no, execA, opv, opvs, ofConst, ofScalar, pureR, newR, skipR, builtinA, Env.get_put, binA, arith, Nat.reduceEqDiff, Nat.reduceAdd, reduceIte, bind2, Heap.bump0, isConst, beq_self_eq_true, Bool.false_eq_true, Bool.or_true, Bool.or_false, Bool.not_true, Bool.not_false, undefA, Option.map_some, and_self, bTF, bFT, e0, e1, g2, c0, c1, decide_false]
  subst hK; clear hall; try simp only [Then]
  refine W.seqT (W.condF (by simp only [opv, ofConst, ofScalar, Env.get_put, Nat.reduceEqDiff, reduceIte, ]) ?_)
  refine W.skip ?_
  simp only [Then]
  refine W.seqR 3 rfl fun K all hK hall => ?_
  simp (maxSteps := 2000000) (disch := first | assumption | simp [es, Env.sz_put]) only [WO_nil, List.getElem?_cons_zero, List.getElem?_cons_succ, WO_cons, WD_nil, WD_cons, List.nil_append, List.append_nil, List.cons_append, sel, nthO, wantedA_free, wantedA_by, putA_into, putA_no, execA, opv, opvs, ofConst, ofScalar, pureR, newR, skipR, builtinA, Env.get_put, binA, arith, Nat.reduceEqDiff, Nat.reduceAdd, reduceIte, bind2, Heap.bump0, isConst, beq_self_eq_true, Bool.false_eq_true, Bool.or_true, Bool.or_false, Bool.not_true, Bool.not_false, undefA, Option.map_some, and_self, bTF, bFT, e1, newR, hc]
  subst hK; clear hall; try simp only [Then]
  refine W.ret ?_
  simp only [Then, BlockQ, LoopQ, EndsR, Nat.reduceEqDiff, reduceIte]
  refine ⟨_, rfl, ?_, Kp.bump h 3⟩
  simp only [oneOf, Env.get_put, Nat.reduceEqDiff, reduceIte]

theorem rin_neg {h : Heap} {m : Int} (h0 : 0 < m) (h1 : m ≤ 9223372036854775808) : ∃ h', Kp h h' ∧ Runs Tryz.prog XT 30 [vu 0, vu m, .bool true, .bool false] h (.ret (vi (-m))) h' := by
  suffices hs : ∃ o h', Runs Tryz.prog XT 30 [vu 0, vu m, .bool true, .bool false] h o h' ∧ (o = .ret (vi (-m)) ∧ Kp h h') by
    obtain ⟨o, h', h1, rfl, h2⟩ := hs
    exact ⟨h', h2, h1⟩
  refine Runs.ends rfl Tryz.func30 rfl ?_
  generalize hE : Env.init [vu 0, vu m, .bool true, .bool false] Tryz.f30.ntmps = e
  have e0 : e.get 0 = vu 0 := by subst hE; rfl
  have e1 : e.get 1 = vu m := by subst hE; rfl
  have e2 : e.get 2 = .bool true := by subst hE; rfl
  have e3 : e.get 3 = .bool false := by subst hE; rfl
  have es : e.sz = 37 := by subst hE; rfl
  clear hE
  have c0 : ¬ (0 : Int) > 0 := by omega
  have c1 : ¬ m > 9223372036854775808 := by omega
  have w1 : IntKind.u64.wrap (0 - m) = 18446744073709551616 - m := by
    rw [wrap_un (by omega) (by omega)]
    omega
  have hc : ∀ (h : Heap) (fr : Nat), convA Tryz.prog h fr 43 2 (vu (18446744073709551616 - m)) = some (vi (-m), h) := fun h fr => by
    have u2 : Tryz.prog.underlying 2 = some (.int .i64) := by kernel_rfl
    have uu : Tryz.prog.underlying 43 = some (.int .u64) := by kernel_rfl
    simp only [convA, u2, uu]
    rw [wrap_up (by omega) (by omega), show 18446744073709551616 - m - 18446744073709551616 = -m by omega]
  refine W.seqR 0 rfl fun K all hK hall => ?_
  simp (maxSteps := 2000000) (disch := first | assumption | simp [es, Env.sz_put]) only [WO_nil, List.getElem?_cons_zero, List.getElem?_cons_succ, WO_cons, WD_nil, WD_cons, List.nil_append, List.append_nil, List.cons_append, sel, nthO, wantedA_free, wantedA_by, putA_into, putA_no, execA, opv, opvs, ofConst, ofScalar, pureR, newR, skipR, builtinA, Env.get_put, binA, arith, Nat.reduceEqDiff, Nat.reduceAdd, reduceIte, bind2, Heap.bump0, isConst, beq_self_eq_true, Bool.false_eq_true, Bool.or_true, Bool.or_false, Bool.not_true, Bool.not_false, undefA, Option.map_some, and_self, bTF, bFT]
  subst hK; clear hall; try simp only [Then]
  refine W.seqA ?_
  refine W.seqR 0 rfl fun K all hK hall => ?_
  have g1 : (all[1]?).bind (·.dst) = some 10 := by subst hall; rfl
  simp (maxSteps := 2000000) (disch := first | assumption | simp [es, Env.sz_put]) only [WO_nil, List.getElem?_cons_zero, List.getElem?_cons_succ, WO_cons, WD_nil, WD_cons, List.nil_append, List.append_nil, List.cons_append, sel, nthO, wantedA_free, wantedA_by, putA_into, putA_no, execA, opv, opvs, ofConst, ofScalar, pureR, newR, skipR, builtinA, Env.get_put, binA, arith, Nat.reduceEqDiff, Nat.reduceAdd, reduceIte, bind2, Heap.bump0, isConst, beq_self_eq_true, Bool.false_eq_true, Bool.or_true, Bool.or_false, Bool.not_true, Bool.not_false, undefA, Option.map_some, and_self, bTF, bFT, e2, e3, g1]
  subst hK; clear hall; try simp only [Then]
  refine W.seqT (W.condF (by simp only [opv, ofConst, ofScalar, Env.get_put, Nat.reduceEqDiff, reduceIte, ]) ?_)
  refine W.skip ?_
  simp only [Then]
  refine W.seqA ?_
  refine W.seqR 0 rfl fun K all hK hall => ?_
  simp (maxSteps := 2000000) (disch := first | assumption | simp [es, Env.sz_put]) only [WO_nil, List.getElem?_cons_zero, List.getElem?_cons_succ, WO_cons, WD_nil, WD_cons, List.nil_append, List.append_nil, List.cons_append, sel, nthO, wantedA_free, wantedA_by, putA_into, putA_no, execA, opv, opvs, ofConst, ofScalar, pureR, newR, skipR, builtinA, Env.get_put, binA, arith, Nat.reduceEqDiff, Nat.reduceAdd, reduceIte, bind2, Heap.bump0, isConst, beq_self_eq_true, Bool.false_eq_true, Bool.or_true, Bool.or_false, Bool.not_true, Bool.not_false, undefA, Option.map_some, and_self, bTF, bFT, e2]
  subst hK; clear hall; try simp only [Then]
  refine W.seqT (W.condT (by simp only [opv, ofConst, ofScalar, Env.get_put, Nat.reduceEqDiff, reduceIte, ]) ?_)
  refine W.seqA ?_
  refine W.seqR 0 rfl fun K all hK hall => ?_
  have g2 : (all[2]?).bind (·.dst) = some 22 := by subst hall; rfl
  simp (maxSteps := 2000000) (disch := first | assumption | simp [es, Env.sz_put]) only [WO_nil, List.getElem?_cons_zero, List.getElem?_cons_succ, WO_cons, WD_nil, WD_cons, List.nil_append, List.append_nil, List.cons_append, sel, nthO, wantedA_free, wantedA_by, putA_into, putA_no, execA, opv, opvs, ofConst, ofScalar, pureR, newR, skipR, builtinA, Env.get_put, binA, arith, Nat.reduceEqDiff, Nat.reduceAdd, reduceIte, bind2, Heap.bump0, isConst, beq_self_eq_true, Bool.false_eq_true, Bool.or_true, Bool.or_false, Bool.not_true, Bool.not_false, undefA, Option.map_some, and_self, bTF, bFT, e0, e1, g2, c0, c1, decide_false]
  subst hK; clear hall; try simp only [Then]
  refine W.seqT (W.condF (by simp only [opv, ofConst, ofScalar, Env.get_put, Nat.reduceEqDiff, reduceIte, ]) ?_)
  refine W.skip ?_
  simp only [Then]
  refine W.seqR 4 rfl fun K all hK hall => ?_
  simp (maxSteps := 2000000) (disch := first | assumption | simp [es, Env.sz_put]) only [WO_nil, List.getElem?_cons_zero, List.getElem?_cons_succ, WO_cons, WD_nil, WD_cons, List.nil_append, List.append_nil, List.cons_append, sel, nthO, wantedA_free, wantedA_by, putA_into, putA_no, execA, opv, opvs, ofConst, ofScalar, pureR, newR, skipR, builtinA, Env.get_put, binA, arith, Nat.reduceEqDiff, Nat.reduceAdd, reduceIte, bind2, Heap.bump0, isConst, beq_self_eq_true, Bool.false_eq_true, Bool.or_true, Bool.or_false, Bool.not_true, Bool.not_false, undefA, Option.map_some, and_self, bTF, bFT, e1, newR, w1, hc]
  subst hK; clear hall; try simp only [Then]
  refine W.ret ?_
  simp only [Then, BlockQ, LoopQ, EndsR, Nat.reduceEqDiff, reduceIte]
  refine ⟨_, rfl, ?_, Kp.bump h 4⟩
  simp only [oneOf, Env.get_put, Nat.reduceEqDiff, reduceIte]

theorem rfloor_runs {h : Heap} {a : Int} (h0 : -9223372036854775808 ≤ a) (h1 : a < 9223372036854775808) : Runs Tryz.prog XT 27 [vi a] h (.ret (vi (a / 4294967296))) h := by
  suffices hs : ∃ o h', Runs Tryz.prog XT 27 [vi a] h o h' ∧ (o = .ret (vi (a / 4294967296)) ∧ h' = h) by
    obtain ⟨o, h', h1, rfl, rfl⟩ := hs
    exact h1
  refine Runs.ends rfl Tryz.func27 rfl ?_
  generalize hE : Env.init [vi a] Tryz.f27.ntmps = e
  have e0 : e.get 0 = vi a := by subst hE; rfl
  have es : e.sz = 12 := by subst hE; rfl
  clear hE
  by_cases c0 : 0 ≤ a
  · have t1 : a.tdiv 4294967296 = a / 4294967296 := Int.tdiv_eq_ediv_of_nonneg c0
    have t2 : a.tmod 4294967296 = a % 4294967296 := Int.tmod_eq_emod_of_nonneg c0
    have w1 : IntKind.i64.wrap (a / 4294967296) = a / 4294967296 := wrap_i (by omega) (by omega)
    have c1 : ¬ a % 4294967296 < 0 := by omega
    have z : ¬ (4294967296 : Int) = 0 := by omega
    refine W.seqR 0 rfl fun K all hK hall => ?_
    simp (maxSteps := 2000000) (disch := first | assumption | simp [es, Env.sz_put]) only [WO_nil, List.getElem?_cons_zero, List.getElem?_cons_succ, WO_cons, WD_nil, WD_cons, List.nil_append, List.append_nil, List.cons_append, sel, nthO, wantedA_free, wantedA_by, putA_into, putA_no, execA, opv, opvs, ofConst, ofScalar, pureR, newR, skipR, builtinA, Env.get_put, binA, arith, Nat.reduceEqDiff, Nat.reduceAdd, reduceIte, bind2, Heap.bump0, isConst, beq_self_eq_true, Bool.false_eq_true, Bool.or_true, Bool.or_false, Bool.not_true, Bool.not_false, undefA, Option.map_some, and_self, bTF, bFT]
    subst hK; clear hall; try simp only [Then]
    refine W.seqR 0 rfl fun K all hK hall => ?_
    simp (maxSteps := 2000000) (disch := first | assumption | simp [es, Env.sz_put]) only [WO_nil, List.getElem?_cons_zero, List.getElem?_cons_succ, WO_cons, WD_nil, WD_cons, List.nil_append, List.append_nil, List.cons_append, sel, nthO, wantedA_free, wantedA_by, putA_into, putA_no, execA, opv, opvs, ofConst, ofScalar, pureR, newR, skipR, builtinA, Env.get_put, binA, arith, Nat.reduceEqDiff, Nat.reduceAdd, reduceIte, bind2, Heap.bump0, isConst, beq_self_eq_true, Bool.false_eq_true, Bool.or_true, Bool.or_false, Bool.not_true, Bool.not_false, undefA, Option.map_some, and_self, bTF, bFT, e0, z, t1, w1]
    subst hK; clear hall; try simp only [Then]
    refine W.seqA ?_
    refine W.seqR 0 rfl fun K all hK hall => ?_
    simp (maxSteps := 2000000) (disch := first | assumption | simp [es, Env.sz_put]) only [WO_nil, List.getElem?_cons_zero, List.getElem?_cons_succ, WO_cons, WD_nil, WD_cons, List.nil_append, List.append_nil, List.cons_append, sel, nthO, wantedA_free, wantedA_by, putA_into, putA_no, execA, opv, opvs, ofConst, ofScalar, pureR, newR, skipR, builtinA, Env.get_put, binA, arith, Nat.reduceEqDiff, Nat.reduceAdd, reduceIte, bind2, Heap.bump0, isConst, beq_self_eq_true, Bool.false_eq_true, Bool.or_true, Bool.or_false, Bool.not_true, Bool.not_false, undefA, Option.map_some, and_self, bTF, bFT, e0, z, t2]
    subst hK; clear hall; try simp only [Then]
    refine W.seqT (W.condF (by simp only [opv, ofConst, ofScalar, Env.get_put, Nat.reduceEqDiff, reduceIte, c1, decide_false]) ?_)
    refine W.skip ?_
    simp only [Then]
    refine W.seqR 0 rfl fun K all hK hall => ?_
    simp (maxSteps := 2000000) (disch := first | assumption | simp [es, Env.sz_put]) only [WO_nil, List.getElem?_cons_zero, List.getElem?_cons_succ, WO_cons, WD_nil, WD_cons, List.nil_append, List.append_nil, List.cons_append, sel, nthO, wantedA_free, wantedA_by, putA_into, putA_no, execA, opv, opvs, ofConst, ofScalar, pureR, newR, skipR, builtinA, Env.get_put, binA, arith, Nat.reduceEqDiff, Nat.reduceAdd, reduceIte, bind2, Heap.bump0, isConst, beq_self_eq_true, Bool.false_eq_true, Bool.or_true, Bool.or_false, Bool.not_true, Bool.not_false, undefA, Option.map_some, and_self, bTF, bFT]
    subst hK; clear hall; try simp only [Then]
    refine W.ret ?_
    simp only [Then, BlockQ, LoopQ, EndsR, Nat.reduceEqDiff, reduceIte]
    refine ⟨_, rfl, ?_, trivial⟩
    simp only [oneOf, Env.get_put, Nat.reduceEqDiff, reduceIte]
  · have n1 : a.tdiv 4294967296 = -((-a) / 4294967296) := by
      have := Int.neg_tdiv (-a) 4294967296
      rw [Int.neg_neg] at this
      rw [this, Int.tdiv_eq_ediv_of_nonneg (by omega)]
    have n2 : a.tmod 4294967296 = -((-a) % 4294967296) := by
      have := Int.neg_tmod (-a) 4294967296
      rw [Int.neg_neg] at this
      rw [this, Int.tmod_eq_emod_of_nonneg (by omega)]
    have z : ¬ (4294967296 : Int) = 0 := by omega
    have w1 : IntKind.i64.wrap (-((-a) / 4294967296)) = -((-a) / 4294967296) := wrap_i (by omega) (by omega)
    refine W.seqR 0 rfl fun K all hK hall => ?_
    simp (maxSteps := 2000000) (disch := first | assumption | simp [es, Env.sz_put]) only [WO_nil, List.getElem?_cons_zero, List.getElem?_cons_succ, WO_cons, WD_nil, WD_cons, List.nil_append, List.append_nil, List.cons_append, sel, nthO, wantedA_free, wantedA_by, putA_into, putA_no, execA, opv, opvs, ofConst, ofScalar, pureR, newR, skipR, builtinA, Env.get_put, binA, arith, Nat.reduceEqDiff, Nat.reduceAdd, reduceIte, bind2, Heap.bump0, isConst, beq_self_eq_true, Bool.false_eq_true, Bool.or_true, Bool.or_false, Bool.not_true, Bool.not_false, undefA, Option.map_some, and_self, bTF, bFT]
    subst hK; clear hall; try simp only [Then]
    refine W.seqR 0 rfl fun K all hK hall => ?_
    simp (maxSteps := 2000000) (disch := first | assumption | simp [es, Env.sz_put]) only [WO_nil, List.getElem?_cons_zero, List.getElem?_cons_succ, WO_cons, WD_nil, WD_cons, List.nil_append, List.append_nil, List.cons_append, sel, nthO, wantedA_free, wantedA_by, putA_into, putA_no, execA, opv, opvs, ofConst, ofScalar, pureR, newR, skipR, builtinA, Env.get_put, binA, arith, Nat.reduceEqDiff, Nat.reduceAdd, reduceIte, bind2, Heap.bump0, isConst, beq_self_eq_true, Bool.false_eq_true, Bool.or_true, Bool.or_false, Bool.not_true, Bool.not_false, undefA, Option.map_some, and_self, bTF, bFT, e0, z, n1, w1]
    subst hK; clear hall; try simp only [Then]
    refine W.seqA ?_
    refine W.seqR 0 rfl fun K all hK hall => ?_
    simp (maxSteps := 2000000) (disch := first | assumption | simp [es, Env.sz_put]) only [WO_nil, List.getElem?_cons_zero, List.getElem?_cons_succ, WO_cons, WD_nil, WD_cons, List.nil_append, List.append_nil, List.cons_append, sel, nthO, wantedA_free, wantedA_by, putA_into, putA_no, execA, opv, opvs, ofConst, ofScalar, pureR, newR, skipR, builtinA, Env.get_put, binA, arith, Nat.reduceEqDiff, Nat.reduceAdd, reduceIte, bind2, Heap.bump0, isConst, beq_self_eq_true, Bool.false_eq_true, Bool.or_true, Bool.or_false, Bool.not_true, Bool.not_false, undefA, Option.map_some, and_self, bTF, bFT, e0, z, n2]
    subst hK; clear hall; try simp only [Then]
    by_cases c1 : -((-a) % 4294967296) < 0
    · have w2 : IntKind.i64.wrap (-((-a) / 4294967296) - 1) = a / 4294967296 := by
        rw [wrap_i (by omega) (by omega)]
        omega
      refine W.seqT (W.condT (by simp only [opv, ofConst, ofScalar, Env.get_put, Nat.reduceEqDiff, reduceIte, c1, decide_true]) ?_)
      refine W.reg 0 rfl fun K all hK hall => ?_
      simp (maxSteps := 2000000) (disch := first | assumption | simp [es, Env.sz_put]) only [WO_nil, List.getElem?_cons_zero, List.getElem?_cons_succ, WO_cons, WD_nil, WD_cons, List.nil_append, List.append_nil, List.cons_append, sel, nthO, wantedA_free, wantedA_by, putA_into, putA_no, execA, opv, opvs, ofConst, ofScalar, pureR, newR, skipR, builtinA, Env.get_put, binA, arith, Nat.reduceEqDiff, Nat.reduceAdd, reduceIte, bind2, Heap.bump0, isConst, beq_self_eq_true, Bool.false_eq_true, Bool.or_true, Bool.or_false, Bool.not_true, Bool.not_false, undefA, Option.map_some, and_self, bTF, bFT, w2]
      subst hK; clear hall; try simp only [Then]
      refine W.seqR 0 rfl fun K all hK hall => ?_
      simp (maxSteps := 2000000) (disch := first | assumption | simp [es, Env.sz_put]) only [WO_nil, List.getElem?_cons_zero, List.getElem?_cons_succ, WO_cons, WD_nil, WD_cons, List.nil_append, List.append_nil, List.cons_append, sel, nthO, wantedA_free, wantedA_by, putA_into, putA_no, execA, opv, opvs, ofConst, ofScalar, pureR, newR, skipR, builtinA, Env.get_put, binA, arith, Nat.reduceEqDiff, Nat.reduceAdd, reduceIte, bind2, Heap.bump0, isConst, beq_self_eq_true, Bool.false_eq_true, Bool.or_true, Bool.or_false, Bool.not_true, Bool.not_false, undefA, Option.map_some, and_self, bTF, bFT]
      subst hK; clear hall; try simp only [Then]
      refine W.ret ?_
      simp only [Then, BlockQ, LoopQ, EndsR, Nat.reduceEqDiff, reduceIte]
      refine ⟨_, rfl, ?_, trivial⟩
      simp only [oneOf, Env.get_put, Nat.reduceEqDiff, reduceIte]
    · have w2 : -((-a) / 4294967296) = a / 4294967296 := by omega
      refine W.seqT (W.condF (by simp only [opv, ofConst, ofScalar, Env.get_put, Nat.reduceEqDiff, reduceIte, c1, decide_false]) ?_)
      refine W.skip ?_
      simp only [Then]
      refine W.seqR 0 rfl fun K all hK hall => ?_
      simp (maxSteps := 2000000) (disch := first | assumption | simp [es, Env.sz_put]) only [WO_nil, List.getElem?_cons_zero, List.getElem?_cons_succ, WO_cons, WD_nil, WD_cons, List.nil_append, List.append_nil, List.cons_append, sel, nthO, wantedA_free, wantedA_by, putA_into, putA_no, execA, opv, opvs, ofConst, ofScalar, pureR, newR, skipR, builtinA, Env.get_put, binA, arith, Nat.reduceEqDiff, Nat.reduceAdd, reduceIte, bind2, Heap.bump0, isConst, beq_self_eq_true, Bool.false_eq_true, Bool.or_true, Bool.or_false, Bool.not_true, Bool.not_false, undefA, Option.map_some, and_self, bTF, bFT, w2]
      subst hK; clear hall; try simp only [Then]
      refine W.ret ?_
      simp only [Then, BlockQ, LoopQ, EndsR, Nat.reduceEqDiff, reduceIte]
      refine ⟨_, rfl, ?_, trivial⟩
      simp only [oneOf, Env.get_put, Nat.reduceEqDiff, reduceIte]

theorem rsub_runs {h : Heap} {a b : Int} (h0 : -9223372036854775808 ≤ b) (h1 : b ≤ a) (h2 : a < b + 4294967296) (h3 : a < 9223372036854775808) : Runs Tryz.prog XT 26 [vi a, vi b] h (.ret (vi (a - b))) h := by
  suffices hs : ∃ o h', Runs Tryz.prog XT 26 [vi a, vi b] h o h' ∧ (o = .ret (vi (a - b)) ∧ h' = h) by
    obtain ⟨o, h', h1, rfl, rfl⟩ := hs
    exact h1
  refine Runs.ends rfl Tryz.func26 rfl ?_
  generalize hE : Env.init [vi a, vi b] Tryz.f26.ntmps = e
  have e0 : e.get 0 = vi a := by subst hE; rfl
  have e1 : e.get 1 = vi b := by subst hE; rfl
  have es : e.sz = 24 := by subst hE; rfl
  clear hE
  have w3 : IntKind.i64.wrap (a - b) = a - b := wrap_i (by omega) (by omega)
  by_cases c0 : b ≥ 0
  · have w1 : IntKind.i64.wrap (-9223372036854775808 + b) = -9223372036854775808 + b := wrap_i (by omega) (by omega)
    have c1 : ¬ a < -9223372036854775808 + b := by omega
    have c2 : ¬ b < 0 := by omega
    refine W.seqR 0 rfl fun K all hK hall => ?_
    simp (maxSteps := 2000000) (disch := first | assumption | simp [es, Env.sz_put]) only [WO_nil, List.getElem?_cons_zero, List.getElem?_cons_succ, WO_cons, WD_nil, WD_cons, List.nil_append, List.append_nil, List.cons_append, sel, nthO, wantedA_free, wantedA_by, putA_into, putA_no, execA, opv, opvs, ofConst, ofScalar, pureR, newR, skipR, builtinA, Env.get_put, binA, arith, Nat.reduceEqDiff, Nat.reduceAdd, reduceIte, bind2, Heap.bump0, isConst, beq_self_eq_true, Bool.false_eq_true, Bool.or_true, Bool.or_false, Bool.not_true, Bool.not_false, undefA, Option.map_some, and_self, bTF, bFT]
    subst hK; clear hall; try simp only [Then]
    refine W.seqA ?_
    refine W.seqR 0 rfl fun K all hK hall => ?_
    have g2 : (all[2]?).bind (·.dst) = some 7 := by subst hall; rfl
    simp (maxSteps := 2000000) (disch := first | assumption | simp [es, Env.sz_put]) only [WO_nil, List.getElem?_cons_zero, List.getElem?_cons_succ, WO_cons, WD_nil, WD_cons, List.nil_append, List.append_nil, List.cons_append, sel, nthO, wantedA_free, wantedA_by, putA_into, putA_no, execA, opv, opvs, ofConst, ofScalar, pureR, newR, skipR, builtinA, Env.get_put, binA, arith, Nat.reduceEqDiff, Nat.reduceAdd, reduceIte, bind2, Heap.bump0, isConst, beq_self_eq_true, Bool.false_eq_true, Bool.or_true, Bool.or_false, Bool.not_true, Bool.not_false, undefA, Option.map_some, and_self, bTF, bFT, e0, e1, g2, c0, c1, w1, decide_true, decide_false]
    subst hK; clear hall; try simp only [Then]
    refine W.seqT (W.condF (by simp only [opv, ofConst, ofScalar, Env.get_put, Nat.reduceEqDiff, reduceIte, ]) ?_)
    refine W.skip ?_
    simp only [Then]
    refine W.seqA ?_
    refine W.seqR 0 rfl fun K all hK hall => ?_
    have g2 : (all[2]?).bind (·.dst) = some 15 := by subst hall; rfl
    simp (maxSteps := 2000000) (disch := first | assumption | simp [es, Env.sz_put]) only [WO_nil, List.getElem?_cons_zero, List.getElem?_cons_succ, WO_cons, WD_nil, WD_cons, List.nil_append, List.append_nil, List.cons_append, sel, nthO, wantedA_free, wantedA_by, putA_into, putA_no, execA, opv, opvs, ofConst, ofScalar, pureR, newR, skipR, builtinA, Env.get_put, binA, arith, Nat.reduceEqDiff, Nat.reduceAdd, reduceIte, bind2, Heap.bump0, isConst, beq_self_eq_true, Bool.false_eq_true, Bool.or_true, Bool.or_false, Bool.not_true, Bool.not_false, undefA, Option.map_some, and_self, bTF, bFT, e0, e1, g2, c2, decide_true, decide_false]
    subst hK; clear hall; try simp only [Then]
    refine W.seqT (W.condF (by simp only [opv, ofConst, ofScalar, Env.get_put, Nat.reduceEqDiff, reduceIte, ]) ?_)
    refine W.skip ?_
    simp only [Then]
    refine W.seqR 0 rfl fun K all hK hall => ?_
    simp (maxSteps := 2000000) (disch := first | assumption | simp [es, Env.sz_put]) only [WO_nil, List.getElem?_cons_zero, List.getElem?_cons_succ, WO_cons, WD_nil, WD_cons, List.nil_append, List.append_nil, List.cons_append, sel, nthO, wantedA_free, wantedA_by, putA_into, putA_no, execA, opv, opvs, ofConst, ofScalar, pureR, newR, skipR, builtinA, Env.get_put, binA, arith, Nat.reduceEqDiff, Nat.reduceAdd, reduceIte, bind2, Heap.bump0, isConst, beq_self_eq_true, Bool.false_eq_true, Bool.or_true, Bool.or_false, Bool.not_true, Bool.not_false, undefA, Option.map_some, and_self, bTF, bFT, e0, e1, w3]
    subst hK; clear hall; try simp only [Then]
    refine W.ret ?_
    simp only [Then, BlockQ, LoopQ, EndsR, Nat.reduceEqDiff, reduceIte]
    refine ⟨_, rfl, ?_, trivial⟩
    simp only [oneOf, Env.get_put, Nat.reduceEqDiff, reduceIte]
  · have w1 : IntKind.i64.wrap (9223372036854775807 + b) = 9223372036854775807 + b := wrap_i (by omega) (by omega)
    have c1 : ¬ a > 9223372036854775807 + b := by omega
    have c2 : b < 0 := by omega
    refine W.seqR 0 rfl fun K all hK hall => ?_
    simp (maxSteps := 2000000) (disch := first | assumption | simp [es, Env.sz_put]) only [WO_nil, List.getElem?_cons_zero, List.getElem?_cons_succ, WO_cons, WD_nil, WD_cons, List.nil_append, List.append_nil, List.cons_append, sel, nthO, wantedA_free, wantedA_by, putA_into, putA_no, execA, opv, opvs, ofConst, ofScalar, pureR, newR, skipR, builtinA, Env.get_put, binA, arith, Nat.reduceEqDiff, Nat.reduceAdd, reduceIte, bind2, Heap.bump0, isConst, beq_self_eq_true, Bool.false_eq_true, Bool.or_true, Bool.or_false, Bool.not_true, Bool.not_false, undefA, Option.map_some, and_self, bTF, bFT]
    subst hK; clear hall; try simp only [Then]
    refine W.seqA ?_
    refine W.seqR 0 rfl fun K all hK hall => ?_
    have g2 : (all[2]?).bind (·.dst) = some 7 := by subst hall; rfl
    simp (maxSteps := 2000000) (disch := first | assumption | simp [es, Env.sz_put]) only [WO_nil, List.getElem?_cons_zero, List.getElem?_cons_succ, WO_cons, WD_nil, WD_cons, List.nil_append, List.append_nil, List.cons_append, sel, nthO, wantedA_free, wantedA_by, putA_into, putA_no, execA, opv, opvs, ofConst, ofScalar, pureR, newR, skipR, builtinA, Env.get_put, binA, arith, Nat.reduceEqDiff, Nat.reduceAdd, reduceIte, bind2, Heap.bump0, isConst, beq_self_eq_true, Bool.false_eq_true, Bool.or_true, Bool.or_false, Bool.not_true, Bool.not_false, undefA, Option.map_some, and_self, bTF, bFT, e0, e1, g2, c0, decide_true, decide_false]
    subst hK; clear hall; try simp only [Then]
    refine W.seqT (W.condF (by simp only [opv, ofConst, ofScalar, Env.get_put, Nat.reduceEqDiff, reduceIte, ]) ?_)
    refine W.skip ?_
    simp only [Then]
    refine W.seqA ?_
    refine W.seqR 0 rfl fun K all hK hall => ?_
    have g2 : (all[2]?).bind (·.dst) = some 15 := by subst hall; rfl
    simp (maxSteps := 2000000) (disch := first | assumption | simp [es, Env.sz_put]) only [WO_nil, List.getElem?_cons_zero, List.getElem?_cons_succ, WO_cons, WD_nil, WD_cons, List.nil_append, List.append_nil, List.cons_append, sel, nthO, wantedA_free, wantedA_by, putA_into, putA_no, execA, opv, opvs, ofConst, ofScalar, pureR, newR, skipR, builtinA, Env.get_put, binA, arith, Nat.reduceEqDiff, Nat.reduceAdd, reduceIte, bind2, Heap.bump0, isConst, beq_self_eq_true, Bool.false_eq_true, Bool.or_true, Bool.or_false, Bool.not_true, Bool.not_false, undefA, Option.map_some, and_self, bTF, bFT, e0, e1, g2, c1, c2, w1, decide_true, decide_false]
    subst hK; clear hall; try simp only [Then]
    refine W.seqT (W.condF (by simp only [opv, ofConst, ofScalar, Env.get_put, Nat.reduceEqDiff, reduceIte, ]) ?_)
    refine W.skip ?_
    simp only [Then]
    refine W.seqR 0 rfl fun K all hK hall => ?_
    simp (maxSteps := 2000000) (disch := first | assumption | simp [es, Env.sz_put]) only [WO_nil, List.getElem?_cons_zero, List.getElem?_cons_succ, WO_cons, WD_nil, WD_cons, List.nil_append, List.append_nil, List.cons_append, sel, nthO, wantedA_free, wantedA_by, putA_into, putA_no, execA, opv, opvs, ofConst, ofScalar, pureR, newR, skipR, builtinA, Env.get_put, binA, arith, Nat.reduceEqDiff, Nat.reduceAdd, reduceIte, bind2, Heap.bump0, isConst, beq_self_eq_true, Bool.false_eq_true, Bool.or_true, Bool.or_false, Bool.not_true, Bool.not_false, undefA, Option.map_some, and_self, bTF, bFT, e0, e1, w3]
    subst hK; clear hall; try simp only [Then]
    refine W.ret ?_
    simp only [Then, BlockQ, LoopQ, EndsR, Nat.reduceEqDiff, reduceIte]
    refine ⟨_, rfl, ?_, trivial⟩
    simp only [oneOf, Env.get_put, Nat.reduceEqDiff, reduceIte]

end Go.Proofs.YtahdafekballcaaGreat.AM
