/-
  The colours of a texture: the document's own whole numbers, products, places, and what is a texture. Conditions: none.
-/
import Derived.Test.YtahdafekballcaaGreatSy1
namespace Go.Proofs.YtahdafekballcaaGreat.AM
open Go Go.Proofs
set_option linter.unusedVariables false
set_option linter.unusedSimpArgs false

theorem rof_runs {h : Heap} {n : Int} (h0 : -2147483648 ≤ n) (h1 : n < 2147483648) : ∃ h', Kp h h' ∧ Runs Tryz.prog XT 16 [vi n] h (.ret (vi (n * 4294967296))) h' := by
  suffices hs : ∃ o h', Runs Tryz.prog XT 16 [vi n] h o h' ∧ (o = .ret (vi (n * 4294967296)) ∧ Kp h h') by
    obtain ⟨o, h', h1, rfl, h2⟩ := hs
    exact ⟨h', h2, h1⟩
  refine Runs.ends rfl Tryz.func16 rfl ?_
  generalize hE : Env.init [vi n] Tryz.f16.ntmps = e
  have e0 : e.get 0 = vi n := by subst hE; rfl
  have es : e.sz = 16 := by subst hE; rfl
  clear hE
  by_cases c0 : n < 0
  · have e9 : -(-n * 4294967296) = n * 4294967296 := by omega
    obtain ⟨ha, ka, ra⟩ := rsize_neg (h := h) c0 (by omega)
    have rb := rprod_runs (h := ha) (x := -n) (n := 1) (q := 0) (r := -n) (by omega) (by omega) (by omega) (by omega) (by omega) (by omega) (by omega) (by omega) (by omega)
    rw [Int.one_mul] at rb
    obtain ⟨hc, kc, rc⟩ := rin_neg (h := ha) (m := -n * 4294967296) (by omega) (by omega)
    rw [e9] at rc
    refine W.seqR 0 rfl fun K all hK hall => ?_
    simp (maxSteps := 2000000) (disch := first | assumption | simp [es, Env.sz_put]) only [WO_nil, List.getElem?_cons_zero, List.getElem?_cons_succ, WO_cons, WD_nil, WD_cons, List.nil_append, List.append_nil, List.cons_append, sel, nthO, wantedA_free, wantedA_by, putA_into, putA_no, execA, opv, opvs, ofConst, ofScalar, pureR, newR, skipR, builtinA, Env.get_put, binA, arith, Nat.reduceEqDiff, Nat.reduceAdd, reduceIte, bind2, Heap.bump0, isConst, beq_self_eq_true, Bool.false_eq_true, Bool.or_true, Bool.or_false, Bool.not_true, Bool.not_false, undefA, Option.map_some, and_self, bTF, bFT]
    subst hK; clear hall; try simp only [Then]
    refine W.seqR 0 rfl fun K all hK hall => ?_
    simp (maxSteps := 2000000) (disch := first | assumption | simp [es, Env.sz_put]) only [WO_nil, List.getElem?_cons_zero, List.getElem?_cons_succ, WO_cons, WD_nil, WD_cons, List.nil_append, List.append_nil, List.cons_append, sel, nthO, wantedA_free, wantedA_by, putA_into, putA_no, execA, opv, opvs, ofConst, ofScalar, pureR, newR, skipR, builtinA, Env.get_put, binA, arith, Nat.reduceEqDiff, Nat.reduceAdd, reduceIte, bind2, Heap.bump0, isConst, beq_self_eq_true, Bool.false_eq_true, Bool.or_true, Bool.or_false, Bool.not_true, Bool.not_false, undefA, Option.map_some, and_self, bTF, bFT, e0]
    refine CallK.into (ra) (by simp [es, Env.sz_put]) ?_
    simp (maxSteps := 2000000) (disch := first | assumption | simp [es, Env.sz_put]) only [WO_nil, List.getElem?_cons_zero, List.getElem?_cons_succ, WO_cons, WD_nil, WD_cons, List.nil_append, List.append_nil, List.cons_append, sel, nthO, wantedA_free, wantedA_by, putA_into, putA_no, execA, opv, opvs, ofConst, ofScalar, pureR, newR, skipR, builtinA, Env.get_put, binA, arith, Nat.reduceEqDiff, Nat.reduceAdd, reduceIte, bind2, Heap.bump0, isConst, beq_self_eq_true, Bool.false_eq_true, Bool.or_true, Bool.or_false, Bool.not_true, Bool.not_false, undefA, Option.map_some, and_self, bTF, bFT]
    refine CallK.into (rb) (by simp [es, Env.sz_put]) ?_
    simp (maxSteps := 2000000) (disch := first | assumption | simp [es, Env.sz_put]) only [WO_nil, List.getElem?_cons_zero, List.getElem?_cons_succ, WO_cons, WD_nil, WD_cons, List.nil_append, List.append_nil, List.cons_append, sel, nthO, wantedA_free, wantedA_by, putA_into, putA_no, execA, opv, opvs, ofConst, ofScalar, pureR, newR, skipR, builtinA, Env.get_put, binA, arith, Nat.reduceEqDiff, Nat.reduceAdd, reduceIte, bind2, Heap.bump0, isConst, beq_self_eq_true, Bool.false_eq_true, Bool.or_true, Bool.or_false, Bool.not_true, Bool.not_false, undefA, Option.map_some, and_self, bTF, bFT, nthO, List.getElem?_cons_zero, List.getElem?_cons_succ]
    subst hK; clear hall; try simp only [Then]
    refine W.seqR 0 rfl fun K all hK hall => ?_
    simp (maxSteps := 2000000) (disch := first | assumption | simp [es, Env.sz_put]) only [WO_nil, List.getElem?_cons_zero, List.getElem?_cons_succ, WO_cons, WD_nil, WD_cons, List.nil_append, List.append_nil, List.cons_append, sel, nthO, wantedA_free, wantedA_by, putA_into, putA_no, execA, opv, opvs, ofConst, ofScalar, pureR, newR, skipR, builtinA, Env.get_put, binA, arith, Nat.reduceEqDiff, Nat.reduceAdd, reduceIte, bind2, Heap.bump0, isConst, beq_self_eq_true, Bool.false_eq_true, Bool.or_true, Bool.or_false, Bool.not_true, Bool.not_false, undefA, Option.map_some, and_self, bTF, bFT, e0, c0, decide_true]
    refine CallK.into (rc) (by simp [es, Env.sz_put]) ?_
    simp (maxSteps := 2000000) (disch := first | assumption | simp [es, Env.sz_put]) only [WO_nil, List.getElem?_cons_zero, List.getElem?_cons_succ, WO_cons, WD_nil, WD_cons, List.nil_append, List.append_nil, List.cons_append, sel, nthO, wantedA_free, wantedA_by, putA_into, putA_no, execA, opv, opvs, ofConst, ofScalar, pureR, newR, skipR, builtinA, Env.get_put, binA, arith, Nat.reduceEqDiff, Nat.reduceAdd, reduceIte, bind2, Heap.bump0, isConst, beq_self_eq_true, Bool.false_eq_true, Bool.or_true, Bool.or_false, Bool.not_true, Bool.not_false, undefA, Option.map_some, and_self, bTF, bFT]
    subst hK; clear hall; try simp only [Then]
    refine W.ret ?_
    simp only [Then, BlockQ, LoopQ, EndsR, Nat.reduceEqDiff, reduceIte]
    refine ⟨_, rfl, ?_, ka.trans kc⟩
    simp only [oneOf, Env.get_put, Nat.reduceEqDiff, reduceIte]
  · obtain ⟨ha, ka, ra⟩ := rsize_pos (h := h) (n := n) (by omega) (by omega)
    have rb := rprod_runs (h := ha) (x := n) (n := 1) (q := 0) (r := n) (by omega) (by omega) (by omega) (by omega) (by omega) (by omega) (by omega) (by omega) (by omega)
    rw [Int.one_mul] at rb
    obtain ⟨hc, kc, rc⟩ := rin_pos (h := ha) (m := n * 4294967296) (b := false) (by omega) (by omega)
    refine W.seqR 0 rfl fun K all hK hall => ?_
    simp (maxSteps := 2000000) (disch := first | assumption | simp [es, Env.sz_put]) only [WO_nil, List.getElem?_cons_zero, List.getElem?_cons_succ, WO_cons, WD_nil, WD_cons, List.nil_append, List.append_nil, List.cons_append, sel, nthO, wantedA_free, wantedA_by, putA_into, putA_no, execA, opv, opvs, ofConst, ofScalar, pureR, newR, skipR, builtinA, Env.get_put, binA, arith, Nat.reduceEqDiff, Nat.reduceAdd, reduceIte, bind2, Heap.bump0, isConst, beq_self_eq_true, Bool.false_eq_true, Bool.or_true, Bool.or_false, Bool.not_true, Bool.not_false, undefA, Option.map_some, and_self, bTF, bFT]
    subst hK; clear hall; try simp only [Then]
    refine W.seqR 0 rfl fun K all hK hall => ?_
    simp (maxSteps := 2000000) (disch := first | assumption | simp [es, Env.sz_put]) only [WO_nil, List.getElem?_cons_zero, List.getElem?_cons_succ, WO_cons, WD_nil, WD_cons, List.nil_append, List.append_nil, List.cons_append, sel, nthO, wantedA_free, wantedA_by, putA_into, putA_no, execA, opv, opvs, ofConst, ofScalar, pureR, newR, skipR, builtinA, Env.get_put, binA, arith, Nat.reduceEqDiff, Nat.reduceAdd, reduceIte, bind2, Heap.bump0, isConst, beq_self_eq_true, Bool.false_eq_true, Bool.or_true, Bool.or_false, Bool.not_true, Bool.not_false, undefA, Option.map_some, and_self, bTF, bFT, e0]
    refine CallK.into (ra) (by simp [es, Env.sz_put]) ?_
    simp (maxSteps := 2000000) (disch := first | assumption | simp [es, Env.sz_put]) only [WO_nil, List.getElem?_cons_zero, List.getElem?_cons_succ, WO_cons, WD_nil, WD_cons, List.nil_append, List.append_nil, List.cons_append, sel, nthO, wantedA_free, wantedA_by, putA_into, putA_no, execA, opv, opvs, ofConst, ofScalar, pureR, newR, skipR, builtinA, Env.get_put, binA, arith, Nat.reduceEqDiff, Nat.reduceAdd, reduceIte, bind2, Heap.bump0, isConst, beq_self_eq_true, Bool.false_eq_true, Bool.or_true, Bool.or_false, Bool.not_true, Bool.not_false, undefA, Option.map_some, and_self, bTF, bFT]
    refine CallK.into (rb) (by simp [es, Env.sz_put]) ?_
    simp (maxSteps := 2000000) (disch := first | assumption | simp [es, Env.sz_put]) only [WO_nil, List.getElem?_cons_zero, List.getElem?_cons_succ, WO_cons, WD_nil, WD_cons, List.nil_append, List.append_nil, List.cons_append, sel, nthO, wantedA_free, wantedA_by, putA_into, putA_no, execA, opv, opvs, ofConst, ofScalar, pureR, newR, skipR, builtinA, Env.get_put, binA, arith, Nat.reduceEqDiff, Nat.reduceAdd, reduceIte, bind2, Heap.bump0, isConst, beq_self_eq_true, Bool.false_eq_true, Bool.or_true, Bool.or_false, Bool.not_true, Bool.not_false, undefA, Option.map_some, and_self, bTF, bFT, nthO, List.getElem?_cons_zero, List.getElem?_cons_succ]
    subst hK; clear hall; try simp only [Then]
    refine W.seqR 0 rfl fun K all hK hall => ?_
    simp (maxSteps := 2000000) (disch := first | assumption | simp [es, Env.sz_put]) only [WO_nil, List.getElem?_cons_zero, List.getElem?_cons_succ, WO_cons, WD_nil, WD_cons, List.nil_append, List.append_nil, List.cons_append, sel, nthO, wantedA_free, wantedA_by, putA_into, putA_no, execA, opv, opvs, ofConst, ofScalar, pureR, newR, skipR, builtinA, Env.get_put, binA, arith, Nat.reduceEqDiff, Nat.reduceAdd, reduceIte, bind2, Heap.bump0, isConst, beq_self_eq_true, Bool.false_eq_true, Bool.or_true, Bool.or_false, Bool.not_true, Bool.not_false, undefA, Option.map_some, and_self, bTF, bFT, e0, c0, decide_false]
    refine CallK.into (rc) (by simp [es, Env.sz_put]) ?_
    simp (maxSteps := 2000000) (disch := first | assumption | simp [es, Env.sz_put]) only [WO_nil, List.getElem?_cons_zero, List.getElem?_cons_succ, WO_cons, WD_nil, WD_cons, List.nil_append, List.append_nil, List.cons_append, sel, nthO, wantedA_free, wantedA_by, putA_into, putA_no, execA, opv, opvs, ofConst, ofScalar, pureR, newR, skipR, builtinA, Env.get_put, binA, arith, Nat.reduceEqDiff, Nat.reduceAdd, reduceIte, bind2, Heap.bump0, isConst, beq_self_eq_true, Bool.false_eq_true, Bool.or_true, Bool.or_false, Bool.not_true, Bool.not_false, undefA, Option.map_some, and_self, bTF, bFT]
    subst hK; clear hall; try simp only [Then]
    refine W.ret ?_
    simp only [Then, BlockQ, LoopQ, EndsR, Nat.reduceEqDiff, reduceIte]
    refine ⟨_, rfl, ?_, ka.trans kc⟩
    simp only [oneOf, Env.get_put, Nat.reduceEqDiff, reduceIte]

theorem rmul_runs {h : Heap} {x n : Int} (h0 : 0 ≤ x) (h1 : x < 4294967296) (h2 : 0 ≤ n) (h3 : n ≤ 1024) : ∃ h', Kp h h' ∧ Runs Tryz.prog XT 28 [vi x, vi (n * 4294967296)] h (.ret (vi (x * n))) h' := by
  suffices hs : ∃ o h', Runs Tryz.prog XT 28 [vi x, vi (n * 4294967296)] h o h' ∧ (o = .ret (vi (x * n)) ∧ Kp h h') by
    obtain ⟨o, h', h1, rfl, h2⟩ := hs
    exact ⟨h', h2, h1⟩
  have hb : 0 ≤ x * n := Int.mul_nonneg h0 h2
  have hb2 : x * n ≤ 4294967295 * 1024 := Int.mul_le_mul (by omega) h3 h2 (by decide)
  obtain ⟨q, hq⟩ : ∃ q, q = x * n / 4294967296 := ⟨_, rfl⟩
  obtain ⟨r, hr⟩ : ∃ r, r = x * n % 4294967296 := ⟨_, rfl⟩
  have hqr : x * n = q * 4294967296 + r := by omega
  refine Runs.ends rfl Tryz.func28 rfl ?_
  generalize hE : Env.init [vi x, vi (n * 4294967296)] Tryz.f28.ntmps = e
  have e0 : e.get 0 = vi x := by subst hE; rfl
  have e1 : e.get 1 = vi (n * 4294967296) := by subst hE; rfl
  have es : e.sz = 31 := by subst hE; rfl
  clear hE
  obtain ⟨ha, ka, ra⟩ := rsize_pos (h := h) (n := x) h0 (by omega)
  obtain ⟨hb', kb, rb⟩ := rsize_pos (h := ha) (n := n * 4294967296) (by omega) (by omega)
  have rc := rprod_runs (h := hb') h0 h1 h2 h3 (show 0 ≤ q by omega) (show q < 4294967296 by omega) (show 0 ≤ r by omega) (show r < 4294967296 by omega) hqr
  have c1 : ¬ x < 0 := by omega
  have c2 : ¬ n * 4294967296 < 0 := by omega
  have u4 : Tryz.prog.underlying 4 = some .bool := by kernel_rfl
  have w2 : IntKind.u64.wrap (q * 4294967296) = q * 4294967296 := wrap_u (by omega) (by omega)
  have w3 : r * 4294967296 / 4294967296 = r := by omega
  have w4 : IntKind.u64.wrap (q * 4294967296 + r) = q * 4294967296 + r := wrap_u (by omega) (by omega)
  have w5 : q / 4294967296 = 0 := by omega
  have w6 : ((0 : Int) != 0) = false := rfl
  have w7 : r * 4294967296 % 4294967296 = 0 := by omega
  obtain ⟨hd, kd, rd⟩ := rin_pos (h := hb') (m := x * n) (b := false) hb (by omega)
  rw [hqr] at rd
  refine W.seqR 0 rfl fun K all hK hall => ?_
  simp (maxSteps := 2000000) (disch := first | assumption | simp [es, Env.sz_put]) only [WO_nil, List.getElem?_cons_zero, List.getElem?_cons_succ, WO_cons, WD_nil, WD_cons, List.nil_append, List.append_nil, List.cons_append, sel, nthO, wantedA_free, wantedA_by, putA_into, putA_no, execA, opv, opvs, ofConst, ofScalar, pureR, newR, skipR, builtinA, Env.get_put, binA, arith, Nat.reduceEqDiff, Nat.reduceAdd, reduceIte, bind2, Heap.bump0, isConst, beq_self_eq_true, Bool.false_eq_true, Bool.or_true, Bool.or_false, Bool.not_true, Bool.not_false, undefA, Option.map_some, and_self, bTF, bFT]
  subst hK; clear hall; try simp only [Then]
  refine W.seqR 0 rfl fun K all hK hall => ?_
  simp (maxSteps := 2000000) (disch := first | assumption | simp [es, Env.sz_put]) only [WO_nil, List.getElem?_cons_zero, List.getElem?_cons_succ, WO_cons, WD_nil, WD_cons, List.nil_append, List.append_nil, List.cons_append, sel, nthO, wantedA_free, wantedA_by, putA_into, putA_no, execA, opv, opvs, ofConst, ofScalar, pureR, newR, skipR, builtinA, Env.get_put, binA, arith, Nat.reduceEqDiff, Nat.reduceAdd, reduceIte, bind2, Heap.bump0, isConst, beq_self_eq_true, Bool.false_eq_true, Bool.or_true, Bool.or_false, Bool.not_true, Bool.not_false, undefA, Option.map_some, and_self, bTF, bFT, e0, e1]
  refine CallK.into (ra) (by simp [es, Env.sz_put]) ?_
  simp (maxSteps := 2000000) (disch := first | assumption | simp [es, Env.sz_put]) only [WO_nil, List.getElem?_cons_zero, List.getElem?_cons_succ, WO_cons, WD_nil, WD_cons, List.nil_append, List.append_nil, List.cons_append, sel, nthO, wantedA_free, wantedA_by, putA_into, putA_no, execA, opv, opvs, ofConst, ofScalar, pureR, newR, skipR, builtinA, Env.get_put, binA, arith, Nat.reduceEqDiff, Nat.reduceAdd, reduceIte, bind2, Heap.bump0, isConst, beq_self_eq_true, Bool.false_eq_true, Bool.or_true, Bool.or_false, Bool.not_true, Bool.not_false, undefA, Option.map_some, and_self, bTF, bFT, e1]
  refine CallK.into (rb) (by simp [es, Env.sz_put]) ?_
  simp (maxSteps := 2000000) (disch := first | assumption | simp [es, Env.sz_put]) only [WO_nil, List.getElem?_cons_zero, List.getElem?_cons_succ, WO_cons, WD_nil, WD_cons, List.nil_append, List.append_nil, List.cons_append, sel, nthO, wantedA_free, wantedA_by, putA_into, putA_no, execA, opv, opvs, ofConst, ofScalar, pureR, newR, skipR, builtinA, Env.get_put, binA, arith, Nat.reduceEqDiff, Nat.reduceAdd, reduceIte, bind2, Heap.bump0, isConst, beq_self_eq_true, Bool.false_eq_true, Bool.or_true, Bool.or_false, Bool.not_true, Bool.not_false, undefA, Option.map_some, and_self, bTF, bFT]
  refine CallK.into (rc) (by simp [es, Env.sz_put]) ?_
  simp (maxSteps := 2000000) (disch := first | assumption | simp [es, Env.sz_put]) only [WO_nil, List.getElem?_cons_zero, List.getElem?_cons_succ, WO_cons, WD_nil, WD_cons, List.nil_append, List.append_nil, List.cons_append, sel, nthO, wantedA_free, wantedA_by, putA_into, putA_no, execA, opv, opvs, ofConst, ofScalar, pureR, newR, skipR, builtinA, Env.get_put, binA, arith, Nat.reduceEqDiff, Nat.reduceAdd, reduceIte, bind2, Heap.bump0, isConst, beq_self_eq_true, Bool.false_eq_true, Bool.or_true, Bool.or_false, Bool.not_true, Bool.not_false, undefA, Option.map_some, and_self, bTF, bFT, nthO, List.getElem?_cons_zero, List.getElem?_cons_succ]
  subst hK; clear hall; try simp only [Then]
  refine W.seqR 0 rfl fun K all hK hall => ?_
  simp (maxSteps := 2000000) (disch := first | assumption | simp [es, Env.sz_put]) only [WO_nil, List.getElem?_cons_zero, List.getElem?_cons_succ, WO_cons, WD_nil, WD_cons, List.nil_append, List.append_nil, List.cons_append, sel, nthO, wantedA_free, wantedA_by, putA_into, putA_no, execA, opv, opvs, ofConst, ofScalar, pureR, newR, skipR, builtinA, Env.get_put, binA, arith, Nat.reduceEqDiff, Nat.reduceAdd, reduceIte, bind2, Heap.bump0, isConst, beq_self_eq_true, Bool.false_eq_true, Bool.or_true, Bool.or_false, Bool.not_true, Bool.not_false, undefA, Option.map_some, and_self, bTF, bFT, e0, e1, c1, c2, decide_false, eqA, u4, shr_u, shl_u, mask_u, w2, w3, w4, w5, w6, w7]
  refine CallK.into (rd) (by simp [es, Env.sz_put]) ?_
  simp (maxSteps := 2000000) (disch := first | assumption | simp [es, Env.sz_put]) only [WO_nil, List.getElem?_cons_zero, List.getElem?_cons_succ, WO_cons, WD_nil, WD_cons, List.nil_append, List.append_nil, List.cons_append, sel, nthO, wantedA_free, wantedA_by, putA_into, putA_no, execA, opv, opvs, ofConst, ofScalar, pureR, newR, skipR, builtinA, Env.get_put, binA, arith, Nat.reduceEqDiff, Nat.reduceAdd, reduceIte, bind2, Heap.bump0, isConst, beq_self_eq_true, Bool.false_eq_true, Bool.or_true, Bool.or_false, Bool.not_true, Bool.not_false, undefA, Option.map_some, and_self, bTF, bFT]
  subst hK; clear hall; try simp only [Then]
  refine W.ret ?_
  simp only [Then, BlockQ, LoopQ, EndsR, Nat.reduceEqDiff, reduceIte]
  refine ⟨_, rfl, ?_, (ka.trans kb).trans kd⟩
  simp only [oneOf, Env.get_put, Nat.reduceEqDiff, reduceIte]
  rw [hqr]

theorem rplace_runs {h : Heap} {a n : Int} (h0 : -9223372036854775808 ≤ a) (h1 : a < 9223372036854775808) (h2 : 1 ≤ n) (h3 : n ≤ 1024) : ∃ h', Kp h h' ∧ Runs Tryz.prog XT 14 [vi a, vi n] h (.ret (vi (plcI a n))) h' := by
  suffices hs : ∃ o h', Runs Tryz.prog XT 14 [vi a, vi n] h o h' ∧ (o = .ret (vi (plcI a n)) ∧ Kp h h') by
    obtain ⟨o, h', h1, rfl, h2⟩ := hs
    exact ⟨h', h2, h1⟩
  refine Runs.ends rfl Tryz.func14 rfl ?_
  generalize hE : Env.init [vi a, vi n] Tryz.f14.ntmps = e
  have e0 : e.get 0 = vi a := by subst hE; rfl
  have e1 : e.get 1 = vi n := by subst hE; rfl
  have es : e.sz = 16 := by subst hE; rfl
  clear hE
  have hb : 0 ≤ a % 4294967296 * n := Int.mul_nonneg (by omega) (by omega)
  have hb2 : a % 4294967296 * n ≤ 4294967295 * 1024 := Int.mul_le_mul (by omega) h3 (by omega) (by decide)
  have ra := rfloor_runs (h := h) h0 h1
  obtain ⟨hb', kb, rb⟩ := rof_runs (h := h) (n := a / 4294967296) (by omega) (by omega)
  have rc := rsub_runs (h := hb') (a := a) (b := a / 4294967296 * 4294967296) (by omega) (by omega) (by omega) h1
  rw [show a - a / 4294967296 * 4294967296 = a % 4294967296 by omega] at rc
  obtain ⟨hd, kd, rd⟩ := rof_runs (h := hb') (n := n) (by omega) (by omega)
  obtain ⟨he, ke, re⟩ := rmul_runs (h := hd) (x := a % 4294967296) (n := n) (by omega) (by omega) (by omega) h3
  have rf := rfloor_runs (h := he) (a := a % 4294967296 * n) (by omega) (by omega)
  refine W.seqR 0 rfl fun K all hK hall => ?_
  simp (maxSteps := 2000000) (disch := first | assumption | simp [es, Env.sz_put]) only [WO_nil, List.getElem?_cons_zero, List.getElem?_cons_succ, WO_cons, WD_nil, WD_cons, List.nil_append, List.append_nil, List.cons_append, sel, nthO, wantedA_free, wantedA_by, putA_into, putA_no, execA, opv, opvs, ofConst, ofScalar, pureR, newR, skipR, builtinA, Env.get_put, binA, arith, Nat.reduceEqDiff, Nat.reduceAdd, reduceIte, bind2, Heap.bump0, isConst, beq_self_eq_true, Bool.false_eq_true, Bool.or_true, Bool.or_false, Bool.not_true, Bool.not_false, undefA, Option.map_some, and_self, bTF, bFT]
  subst hK; clear hall; try simp only [Then]
  refine W.seqR 0 rfl fun K all hK hall => ?_
  simp (maxSteps := 2000000) (disch := first | assumption | simp [es, Env.sz_put]) only [WO_nil, List.getElem?_cons_zero, List.getElem?_cons_succ, WO_cons, WD_nil, WD_cons, List.nil_append, List.append_nil, List.cons_append, sel, nthO, wantedA_free, wantedA_by, putA_into, putA_no, execA, opv, opvs, ofConst, ofScalar, pureR, newR, skipR, builtinA, Env.get_put, binA, arith, Nat.reduceEqDiff, Nat.reduceAdd, reduceIte, bind2, Heap.bump0, isConst, beq_self_eq_true, Bool.false_eq_true, Bool.or_true, Bool.or_false, Bool.not_true, Bool.not_false, undefA, Option.map_some, and_self, bTF, bFT, e0]
  refine CallK.into (ra) (by simp [es, Env.sz_put]) ?_
  simp (maxSteps := 2000000) (disch := first | assumption | simp [es, Env.sz_put]) only [WO_nil, List.getElem?_cons_zero, List.getElem?_cons_succ, WO_cons, WD_nil, WD_cons, List.nil_append, List.append_nil, List.cons_append, sel, nthO, wantedA_free, wantedA_by, putA_into, putA_no, execA, opv, opvs, ofConst, ofScalar, pureR, newR, skipR, builtinA, Env.get_put, binA, arith, Nat.reduceEqDiff, Nat.reduceAdd, reduceIte, bind2, Heap.bump0, isConst, beq_self_eq_true, Bool.false_eq_true, Bool.or_true, Bool.or_false, Bool.not_true, Bool.not_false, undefA, Option.map_some, and_self, bTF, bFT]
  refine CallK.into (rb) (by simp [es, Env.sz_put]) ?_
  simp (maxSteps := 2000000) (disch := first | assumption | simp [es, Env.sz_put]) only [WO_nil, List.getElem?_cons_zero, List.getElem?_cons_succ, WO_cons, WD_nil, WD_cons, List.nil_append, List.append_nil, List.cons_append, sel, nthO, wantedA_free, wantedA_by, putA_into, putA_no, execA, opv, opvs, ofConst, ofScalar, pureR, newR, skipR, builtinA, Env.get_put, binA, arith, Nat.reduceEqDiff, Nat.reduceAdd, reduceIte, bind2, Heap.bump0, isConst, beq_self_eq_true, Bool.false_eq_true, Bool.or_true, Bool.or_false, Bool.not_true, Bool.not_false, undefA, Option.map_some, and_self, bTF, bFT]
  refine CallK.into (rc) (by simp [es, Env.sz_put]) ?_
  simp (maxSteps := 2000000) (disch := first | assumption | simp [es, Env.sz_put]) only [WO_nil, List.getElem?_cons_zero, List.getElem?_cons_succ, WO_cons, WD_nil, WD_cons, List.nil_append, List.append_nil, List.cons_append, sel, nthO, wantedA_free, wantedA_by, putA_into, putA_no, execA, opv, opvs, ofConst, ofScalar, pureR, newR, skipR, builtinA, Env.get_put, binA, arith, Nat.reduceEqDiff, Nat.reduceAdd, reduceIte, bind2, Heap.bump0, isConst, beq_self_eq_true, Bool.false_eq_true, Bool.or_true, Bool.or_false, Bool.not_true, Bool.not_false, undefA, Option.map_some, and_self, bTF, bFT]
  subst hK; clear hall; try simp only [Then]
  refine W.seqR 0 rfl fun K all hK hall => ?_
  simp (maxSteps := 2000000) (disch := first | assumption | simp [es, Env.sz_put]) only [WO_nil, List.getElem?_cons_zero, List.getElem?_cons_succ, WO_cons, WD_nil, WD_cons, List.nil_append, List.append_nil, List.cons_append, sel, nthO, wantedA_free, wantedA_by, putA_into, putA_no, execA, opv, opvs, ofConst, ofScalar, pureR, newR, skipR, builtinA, Env.get_put, binA, arith, Nat.reduceEqDiff, Nat.reduceAdd, reduceIte, bind2, Heap.bump0, isConst, beq_self_eq_true, Bool.false_eq_true, Bool.or_true, Bool.or_false, Bool.not_true, Bool.not_false, undefA, Option.map_some, and_self, bTF, bFT, e1]
  refine CallK.into (rd) (by simp [es, Env.sz_put]) ?_
  simp (maxSteps := 2000000) (disch := first | assumption | simp [es, Env.sz_put]) only [WO_nil, List.getElem?_cons_zero, List.getElem?_cons_succ, WO_cons, WD_nil, WD_cons, List.nil_append, List.append_nil, List.cons_append, sel, nthO, wantedA_free, wantedA_by, putA_into, putA_no, execA, opv, opvs, ofConst, ofScalar, pureR, newR, skipR, builtinA, Env.get_put, binA, arith, Nat.reduceEqDiff, Nat.reduceAdd, reduceIte, bind2, Heap.bump0, isConst, beq_self_eq_true, Bool.false_eq_true, Bool.or_true, Bool.or_false, Bool.not_true, Bool.not_false, undefA, Option.map_some, and_self, bTF, bFT]
  refine CallK.into (re) (by simp [es, Env.sz_put]) ?_
  simp (maxSteps := 2000000) (disch := first | assumption | simp [es, Env.sz_put]) only [WO_nil, List.getElem?_cons_zero, List.getElem?_cons_succ, WO_cons, WD_nil, WD_cons, List.nil_append, List.append_nil, List.cons_append, sel, nthO, wantedA_free, wantedA_by, putA_into, putA_no, execA, opv, opvs, ofConst, ofScalar, pureR, newR, skipR, builtinA, Env.get_put, binA, arith, Nat.reduceEqDiff, Nat.reduceAdd, reduceIte, bind2, Heap.bump0, isConst, beq_self_eq_true, Bool.false_eq_true, Bool.or_true, Bool.or_false, Bool.not_true, Bool.not_false, undefA, Option.map_some, and_self, bTF, bFT]
  refine CallK.into (rf) (by simp [es, Env.sz_put]) ?_
  simp (maxSteps := 2000000) (disch := first | assumption | simp [es, Env.sz_put]) only [WO_nil, List.getElem?_cons_zero, List.getElem?_cons_succ, WO_cons, WD_nil, WD_cons, List.nil_append, List.append_nil, List.cons_append, sel, nthO, wantedA_free, wantedA_by, putA_into, putA_no, execA, opv, opvs, ofConst, ofScalar, pureR, newR, skipR, builtinA, Env.get_put, binA, arith, Nat.reduceEqDiff, Nat.reduceAdd, reduceIte, bind2, Heap.bump0, isConst, beq_self_eq_true, Bool.false_eq_true, Bool.or_true, Bool.or_false, Bool.not_true, Bool.not_false, undefA, Option.map_some, and_self, bTF, bFT]
  subst hK; clear hall; try simp only [Then]
  refine W.ret ?_
  simp only [Then, BlockQ, LoopQ, EndsR, Nat.reduceEqDiff, reduceIte]
  refine ⟨_, rfl, ?_, (kb.trans kd).trans ke⟩
  simp only [oneOf, Env.get_put, Nat.reduceEqDiff, reduceIte]
  rfl

theorem rright_runs {h : Heap} {p : AV} {l : List Int} {wd hg : Int} (hp : PixIs h p l) : ∃ h', Kp h h' ∧ Runs Tryz.prog XT 13 [.agg [vi wd, vi hg, p]] h (.ret (.bool (decide (Right wd hg l)))) h' := by
  suffices hs : ∃ o h', Runs Tryz.prog XT 13 [.agg [vi wd, vi hg, p]] h o h' ∧ (o = .ret (.bool (decide (Right wd hg l))) ∧ Kp h h') by
    obtain ⟨o, h', h1, rfl, h2⟩ := hs
    exact ⟨h', h2, h1⟩
  refine Runs.ends rfl Tryz.func13 rfl ?_
  generalize hE : Env.init [.agg [vi wd, vi hg, p]] Tryz.f13.ntmps = e
  have e0 : e.get 0 = .agg [vi wd, vi hg, p] := by subst hE; rfl
  have es : e.sz = 33 := by subst hE; rfl
  clear hE
  refine W.seqR 2 rfl fun K all hK hall => ?_
  simp (maxSteps := 2000000) (disch := first | assumption | simp [es, Env.sz_put]) only [WO_nil, List.getElem?_cons_zero, List.getElem?_cons_succ, WO_cons, WD_nil, WD_cons, List.nil_append, List.append_nil, List.cons_append, sel, nthO, wantedA_free, wantedA_by, putA_into, putA_no, execA, opv, opvs, ofConst, ofScalar, pureR, newR, skipR, builtinA, Env.get_put, binA, arith, Nat.reduceEqDiff, Nat.reduceAdd, reduceIte, bind2, Heap.bump0, isConst, beq_self_eq_true, Bool.false_eq_true, Bool.or_true, Bool.or_false, Bool.not_true, Bool.not_false, undefA, Option.map_some, and_self, bTF, bFT, e0, box_agg]
  subst hK; clear hall; try simp only [Then]
  have kp1 : Kp h (newA (h.bump 2) h.next [vi wd, vi hg, p]) := (Kp.bump h 2).put (Nat.le_refl _) _
  have hB1 : rdA (newA (h.bump 2) h.next [vi wd, vi hg, p]) h.next = [vi wd, vi hg, p] := rd_new _ _ _
  generalize h.next = B at hB1 kp1
  generalize newA (h.bump 2) B [vi wd, vi hg, p] = h1 at hB1 kp1
  have hlen := (hp.ext kp1).len
  have lW : loadA Tryz.prog h1 3 (.ptr B 0) = some (vi wd) := load3 hB1 rfl
  have lH : loadA Tryz.prog h1 3 (.ptr B 1) = some (vi hg) := load3 hB1 rfl
  have lP : loadA Tryz.prog h1 22 (.ptr B 2) = some p := load22 hB1 rfl
  refine W.seqR 0 rfl fun K all hK hall => ?_
  have g3 : (all[3]?).bind (·.dst) = some 6 := by subst hall; rfl
  have g8 : (all[8]?).bind (·.dst) = some 11 := by subst hall; rfl
  have g13 : (all[13]?).bind (·.dst) = some 16 := by subst hall; rfl
  have g18 : (all[18]?).bind (·.dst) = some 21 := by subst hall; rfl
  by_cases c1 : ¬ wd ≥ 1
  · have nr : ¬ Right wd hg l := fun r => c1 r.1
    simp (maxSteps := 2000000) (disch := first | assumption | simp [es, Env.sz_put]) only [WO_nil, List.getElem?_cons_zero, List.getElem?_cons_succ, WO_cons, WD_nil, WD_cons, List.nil_append, List.append_nil, List.cons_append, sel, nthO, wantedA_free, wantedA_by, putA_into, putA_no, execA, opv, opvs, ofConst, ofScalar, pureR, newR, skipR, builtinA, Env.get_put, binA, arith, Nat.reduceEqDiff, Nat.reduceAdd, reduceIte, bind2, Heap.bump0, isConst, beq_self_eq_true, Bool.false_eq_true, Bool.or_true, Bool.or_false, Bool.not_true, Bool.not_false, undefA, Option.map_some, and_self, bTF, bFT, fa0, fa1, fa2, lW, lH, lP, hlen, g3, g8, g13, g18, c1, decide_true, decide_false]
    subst hK; clear hall; try simp only [Then]
    refine W.ret ?_
    simp only [Then, BlockQ, LoopQ, EndsR, Nat.reduceEqDiff, reduceIte]
    refine ⟨_, rfl, ?_, kp1⟩
    simp only [oneOf, Env.get_put, Nat.reduceEqDiff, reduceIte]
    rw [decide_eq_false nr]
  have c1 := Classical.not_not.1 c1
  by_cases c2 : ¬ wd ≤ 1024
  · have nr : ¬ Right wd hg l := fun r => c2 r.2.1
    simp (maxSteps := 2000000) (disch := first | assumption | simp [es, Env.sz_put]) only [WO_nil, List.getElem?_cons_zero, List.getElem?_cons_succ, WO_cons, WD_nil, WD_cons, List.nil_append, List.append_nil, List.cons_append, sel, nthO, wantedA_free, wantedA_by, putA_into, putA_no, execA, opv, opvs, ofConst, ofScalar, pureR, newR, skipR, builtinA, Env.get_put, binA, arith, Nat.reduceEqDiff, Nat.reduceAdd, reduceIte, bind2, Heap.bump0, isConst, beq_self_eq_true, Bool.false_eq_true, Bool.or_true, Bool.or_false, Bool.not_true, Bool.not_false, undefA, Option.map_some, and_self, bTF, bFT, fa0, fa1, fa2, lW, lH, lP, hlen, g3, g8, g13, g18, c1, c2, decide_true, decide_false]
    subst hK; clear hall; try simp only [Then]
    refine W.ret ?_
    simp only [Then, BlockQ, LoopQ, EndsR, Nat.reduceEqDiff, reduceIte]
    refine ⟨_, rfl, ?_, kp1⟩
    simp only [oneOf, Env.get_put, Nat.reduceEqDiff, reduceIte]
    rw [decide_eq_false nr]
  have c2 := Classical.not_not.1 c2
  by_cases c3 : ¬ hg ≥ 1
  · have nr : ¬ Right wd hg l := fun r => c3 r.2.2.1
    simp (maxSteps := 2000000) (disch := first | assumption | simp [es, Env.sz_put]) only [WO_nil, List.getElem?_cons_zero, List.getElem?_cons_succ, WO_cons, WD_nil, WD_cons, List.nil_append, List.append_nil, List.cons_append, sel, nthO, wantedA_free, wantedA_by, putA_into, putA_no, execA, opv, opvs, ofConst, ofScalar, pureR, newR, skipR, builtinA, Env.get_put, binA, arith, Nat.reduceEqDiff, Nat.reduceAdd, reduceIte, bind2, Heap.bump0, isConst, beq_self_eq_true, Bool.false_eq_true, Bool.or_true, Bool.or_false, Bool.not_true, Bool.not_false, undefA, Option.map_some, and_self, bTF, bFT, fa0, fa1, fa2, lW, lH, lP, hlen, g3, g8, g13, g18, c1, c2, c3, decide_true, decide_false]
    subst hK; clear hall; try simp only [Then]
    refine W.ret ?_
    simp only [Then, BlockQ, LoopQ, EndsR, Nat.reduceEqDiff, reduceIte]
    refine ⟨_, rfl, ?_, kp1⟩
    simp only [oneOf, Env.get_put, Nat.reduceEqDiff, reduceIte]
    rw [decide_eq_false nr]
  have c3 := Classical.not_not.1 c3
  by_cases c4 : ¬ hg ≤ 1024
  · have nr : ¬ Right wd hg l := fun r => c4 r.2.2.2.1
    simp (maxSteps := 2000000) (disch := first | assumption | simp [es, Env.sz_put]) only [WO_nil, List.getElem?_cons_zero, List.getElem?_cons_succ, WO_cons, WD_nil, WD_cons, List.nil_append, List.append_nil, List.cons_append, sel, nthO, wantedA_free, wantedA_by, putA_into, putA_no, execA, opv, opvs, ofConst, ofScalar, pureR, newR, skipR, builtinA, Env.get_put, binA, arith, Nat.reduceEqDiff, Nat.reduceAdd, reduceIte, bind2, Heap.bump0, isConst, beq_self_eq_true, Bool.false_eq_true, Bool.or_true, Bool.or_false, Bool.not_true, Bool.not_false, undefA, Option.map_some, and_self, bTF, bFT, fa0, fa1, fa2, lW, lH, lP, hlen, g3, g8, g13, g18, c1, c2, c3, c4, decide_true, decide_false]
    subst hK; clear hall; try simp only [Then]
    refine W.ret ?_
    simp only [Then, BlockQ, LoopQ, EndsR, Nat.reduceEqDiff, reduceIte]
    refine ⟨_, rfl, ?_, kp1⟩
    simp only [oneOf, Env.get_put, Nat.reduceEqDiff, reduceIte]
    rw [decide_eq_false nr]
  have c4 := Classical.not_not.1 c4
  have b1 : 0 ≤ wd * hg := Int.mul_nonneg (by omega) (by omega)
  have b2 : wd * hg ≤ 1024 * hg := Int.mul_le_mul_of_nonneg_right (by omega) (by omega)
  have b3 : 4 * wd * hg = 4 * (wd * hg) := Int.mul_assoc _ _ _
  have w1 : IntKind.i64.wrap (4 * wd) = 4 * wd := wrap_i (by omega) (by omega)
  have w2 : IntKind.i64.wrap (4 * wd * hg) = 4 * wd * hg := wrap_i (by omega) (by omega)
  by_cases c5 : ¬ (l.length : Int) = 4 * wd * hg
  · have nr : ¬ Right wd hg l := fun r => c5 r.2.2.2.2
    simp (maxSteps := 2000000) (disch := first | assumption | simp [es, Env.sz_put]) only [WO_nil, List.getElem?_cons_zero, List.getElem?_cons_succ, WO_cons, WD_nil, WD_cons, List.nil_append, List.append_nil, List.cons_append, sel, nthO, wantedA_free, wantedA_by, putA_into, putA_no, execA, opv, opvs, ofConst, ofScalar, pureR, newR, skipR, builtinA, Env.get_put, binA, arith, Nat.reduceEqDiff, Nat.reduceAdd, reduceIte, bind2, Heap.bump0, isConst, beq_self_eq_true, Bool.false_eq_true, Bool.or_true, Bool.or_false, Bool.not_true, Bool.not_false, undefA, Option.map_some, and_self, bTF, bFT, fa0, fa1, fa2, lW, lH, lP, hlen, g3, g8, g13, g18, c1, c2, c3, c4, w1, w2, decide_true, show ((l.length : Int) == 4 * wd * hg) = false from by simpa using c5]
    subst hK; clear hall; try simp only [Then]
    refine W.ret ?_
    simp only [Then, BlockQ, LoopQ, EndsR, Nat.reduceEqDiff, reduceIte]
    refine ⟨_, rfl, ?_, kp1⟩
    simp only [oneOf, Env.get_put, Nat.reduceEqDiff, reduceIte]
    rw [decide_eq_false nr]
  have c5 := Classical.not_not.1 c5
  have rt : Right wd hg l := ⟨c1, c2, c3, c4, c5⟩
  simp (maxSteps := 2000000) (disch := first | assumption | simp [es, Env.sz_put]) only [WO_nil, List.getElem?_cons_zero, List.getElem?_cons_succ, WO_cons, WD_nil, WD_cons, List.nil_append, List.append_nil, List.cons_append, sel, nthO, wantedA_free, wantedA_by, putA_into, putA_no, execA, opv, opvs, ofConst, ofScalar, pureR, newR, skipR, builtinA, Env.get_put, binA, arith, Nat.reduceEqDiff, Nat.reduceAdd, reduceIte, bind2, Heap.bump0, isConst, beq_self_eq_true, Bool.false_eq_true, Bool.or_true, Bool.or_false, Bool.not_true, Bool.not_false, undefA, Option.map_some, and_self, bTF, bFT, fa0, fa1, fa2, lW, lH, lP, hlen, g3, g8, g13, g18, c1, c2, c3, c4, w1, w2, decide_true, show ((l.length : Int) == 4 * wd * hg) = true from by simpa using c5]
  subst hK; clear hall; try simp only [Then]
  refine W.ret ?_
  simp only [Then, BlockQ, LoopQ, EndsR, Nat.reduceEqDiff, reduceIte]
  refine ⟨_, rfl, ?_, kp1⟩
  simp only [oneOf, Env.get_put, Nat.reduceEqDiff, reduceIte]
  rw [decide_eq_true rt]

end Go.Proofs.YtahdafekballcaaGreat.AM
