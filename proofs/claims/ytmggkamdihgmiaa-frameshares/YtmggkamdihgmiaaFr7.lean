/-
  The frame laws, part 7: FrameEqual's walk.
-/
import Derived.Test.YtmggkamdihgmiaaFr3
import Derived.Test.YtmggkamdihgmiaaFr6
namespace Go.Proofs.Ytmggkamdihgmiaa.AM
open Go Go.Proofs
set_option linter.unusedVariables false
set_option linter.unusedSimpArgs false

theorem und5 : Try.prog.underlying 5 = some (.int .u8) := by kernel_rfl

theorem awake_in (h : Heap) : Runs Try.prog XA 15 [] h (.ret (.bool true)) h := Runs.of (n := 1) rfl

theorem conv53 (h : Heap) (f : Nat) (n : Int) (h0 : 0 ≤ n ∧ n ≤ 255) : convA Try.prog h f 5 3 (.int .u8 n) = some (vi n, h) := by
  simp only [convA, und5, und3]
  rw [wrap_small (by omega) (by omega)]

set_option maxHeartbeats 1000000 in
theorem equal_runs {h : Heap} {a0 a1 : Int} (w0 : 0 ≤ a0 ∧ a0 ≤ 255) (w1 : 0 ≤ a1 ∧ a1 ≤ 255) : ∃ h', Runs Try.prog XA 5 [.int .u8 a0, .int .u8 a1] h (.ret (.bool true)) h' := by
  suffices hs : ∃ r h', Runs Try.prog XA 5 [.int .u8 a0, .int .u8 a1] h r h' ∧ r = .ret (.bool true) by
    obtain ⟨r, h', h1, rfl⟩ := hs
    exact ⟨h', h1⟩
  have t0 : a0.tmod 16 = a0 % 16 := Int.tmod_eq_emod_of_nonneg w0.1
  have t1 : a1.tmod 16 = a1 % 16 := Int.tmod_eq_emod_of_nonneg w1.1
  obtain ⟨N, hN, hN1, hN2⟩ : ∃ N : Nat, a0.tmod 16 + 1 = N ∧ 0 < N ∧ N ≤ 16 := ⟨(a0.tmod 16 + 1).toNat, by omega, by omega, by omega⟩
  obtain ⟨V, hV, hV1, hV2⟩ : ∃ V : Nat, a1.tmod 16 + 1 = V ∧ 0 < V ∧ V ≤ 16 := ⟨(a1.tmod 16 + 1).toNat, by omega, by omega, by omega⟩
  have hNV : N * V ≤ 16 * 16 := Nat.mul_le_mul hN2 hV2
  have hf := equal_frame hN1 hN2 hV1 hV2
  refine Runs.ends rfl Try.func5 rfl ?_
  generalize hE : Env.init [.int .u8 a0, .int .u8 a1] Try.f5.ntmps = e
  have e0 : e.get 0 = .int .u8 a0 := by subst hE; rfl
  have e1 : e.get 1 = .int .u8 a1 := by subst hE; rfl
  have es : e.sz = 57 := by subst hE; rfl
  clear hE
  refine W.seqR 0 rfl fun K all hK hall => ?_
  simp (maxSteps := 2000000) (disch := first | assumption | simp [es, Env.sz_put]) only [WO_nil, List.getElem?_cons_zero, List.getElem?_cons_succ, WO_cons, WD_nil, WD_cons, List.nil_append, List.append_nil, List.cons_append, sel, nthO, wantedA_free, wantedA_by, putA_into, putA_no, execA, opv, opvs, ofConst, ofScalar, pureR, newR, skipR, builtinA, Env.get_put, binA, arith, Nat.reduceEqDiff, Nat.reduceAdd, reduceIte, bind2, Heap.bump0, isConst, beq_self_eq_true, Bool.false_eq_true, Bool.or_true, Bool.or_false, Bool.not_true, Bool.not_false, undefA, Option.map_some, and_self, bTF, bFT]
  subst hK; clear hall; try simp only [Then]
  have n16 : ¬ (16 : Int) = 0 := by omega
  have v1 : IntKind.i64.wrap (1 + a0.tmod 16) = N := by rw [wrap_small (by omega) (by omega)]; omega
  have v2 : IntKind.i64.wrap (1 + a1.tmod 16) = V := by rw [wrap_small (by omega) (by omega)]; omega
  refine W.seqR 10 rfl fun K all hK hall => ?_
  have k1 := fun h f => conv53 h f (a0.tmod 16) (by omega)
  have k2 := fun h f => conv53 h f (a1.tmod 16) (by omega)
  simp (maxSteps := 2000000) (disch := first | assumption | simp [es, Env.sz_put]) only [WO_nil, List.getElem?_cons_zero, List.getElem?_cons_succ, WO_cons, WD_nil, WD_cons, List.nil_append, List.append_nil, List.cons_append, sel, nthO, wantedA_free, wantedA_by, putA_into, putA_no, execA, opv, opvs, ofConst, ofScalar, pureR, newR, skipR, builtinA, Env.get_put, binA, arith, Nat.reduceEqDiff, Nat.reduceAdd, reduceIte, bind2, Heap.bump0, isConst, beq_self_eq_true, Bool.false_eq_true, Bool.or_true, Bool.or_false, Bool.not_true, Bool.not_false, undefA, Option.map_some, and_self, bTF, bFT, e0, e1, n16, k1, k2, v1, v2]
  subst hK; clear hall; try simp only [Then]
  refine W.seqR 0 rfl fun K all hK hall => ?_
  simp (maxSteps := 2000000) (disch := first | assumption | simp [es, Env.sz_put]) only [WO_nil, List.getElem?_cons_zero, List.getElem?_cons_succ, WO_cons, WD_nil, WD_cons, List.nil_append, List.append_nil, List.cons_append, sel, nthO, wantedA_free, wantedA_by, putA_into, putA_no, execA, opv, opvs, ofConst, ofScalar, pureR, newR, skipR, builtinA, Env.get_put, binA, arith, Nat.reduceEqDiff, Nat.reduceAdd, reduceIte, bind2, Heap.bump0, isConst, beq_self_eq_true, Bool.false_eq_true, Bool.or_true, Bool.or_false, Bool.not_true, Bool.not_false, undefA, Option.map_some, and_self, bTF, bFT]
  subst hK; clear hall; try simp only [Then]
  refine W.seqA ?_
  refine W.seqR 0 rfl fun K all hK hall => ?_
  simp (maxSteps := 2000000) (disch := first | assumption | simp [es, Env.sz_put]) only [WO_nil, List.getElem?_cons_zero, List.getElem?_cons_succ, WO_cons, WD_nil, WD_cons, List.nil_append, List.append_nil, List.cons_append, sel, nthO, wantedA_free, wantedA_by, putA_into, putA_no, execA, opv, opvs, ofConst, ofScalar, pureR, newR, skipR, builtinA, Env.get_put, binA, arith, Nat.reduceEqDiff, Nat.reduceAdd, reduceIte, bind2, Heap.bump0, isConst, beq_self_eq_true, Bool.false_eq_true, Bool.or_true, Bool.or_false, Bool.not_true, Bool.not_false, undefA, Option.map_some, and_self, bTF, bFT]
  subst hK; clear hall; try simp only [Then]
  refine W.seqLoop (fun m s => ∃ (i : Nat) (c : AV), m = N - i ∧ i ≤ N ∧ Own h.next s.heap c (List.replicate i (V : Int)) ∧ h.next ≤ s.heap.next ∧ s.env.sz = 57 ∧ s.env.get 5 = vi N ∧ s.env.get 6 = vi V ∧ s.env.get 7 = c ∧ s.env.get 20 = vi N ∧ s.env.get 21 = vi i) N ⟨0, .nils, rfl, by omega, Own.nil _ _, by show h.next ≤ h.next + 10; omega, ?_, ?_, ?_, ?_, ?_, ?_⟩ ?_
  · simp only [Env.sz_put, es]
  · simp only [Env.get_put, Nat.reduceEqDiff, reduceIte]
  · simp only [Env.get_put, Nat.reduceEqDiff, reduceIte]
  · simp only [Env.get_put, Nat.reduceEqDiff, reduceIte]
  · simp only [Env.get_put, Nat.reduceEqDiff, reduceIte]
  · simp only [Env.get_put, Nat.reduceEqDiff, reduceIte]; rfl
  clear e0 e1 es e
  rintro m ⟨e, h1⟩ ⟨i, c, rfl, hi, hO, hn, es, e5, e6, e7, e20, e21⟩
  dsimp only at hO hn es e5 e6 e7 e20 e21
  refine W.seqR 0 rfl fun K all hK hall => ?_
  simp (maxSteps := 2000000) (disch := first | assumption | simp [es, Env.sz_put]) only [WO_nil, List.getElem?_cons_zero, List.getElem?_cons_succ, WO_cons, WD_nil, WD_cons, List.nil_append, List.append_nil, List.cons_append, sel, nthO, wantedA_free, wantedA_by, putA_into, putA_no, execA, opv, opvs, ofConst, ofScalar, pureR, newR, skipR, builtinA, Env.get_put, binA, arith, Nat.reduceEqDiff, Nat.reduceAdd, reduceIte, bind2, Heap.bump0, isConst, beq_self_eq_true, Bool.false_eq_true, Bool.or_true, Bool.or_false, Bool.not_true, Bool.not_false, undefA, Option.map_some, and_self, bTF, bFT, e20, e21]
  subst hK; clear hall; try simp only [Then]
  by_cases c1 : i < N
  · have c1' : (i : Int) < (N : Int) := by omega
    refine W.seqT (W.condT (by simp only [opv, ofConst, ofScalar, Env.get_put, Nat.reduceEqDiff, reduceIte, c1', decide_true]) ?_)
    refine W.skip ?_
    simp only [Then]
    refine W.seqT (W.blockT ?_)
    obtain ⟨c', h6, p1, p2, p3, p4⟩ := hO.more (h0 := { h1 with next := h.next }) ⟨hn, fun _ _ => rfl⟩ (Nat.le_refl _) hn (f1 := h1.next + 1 + 1) (f2 := h1.next + 1 + 1 + 1) (n := 5) (by omega) (by omega) (by omega) (V : Int) (by simp; omega)
    refine W.reg 5 rfl fun K all hK hall => ?_
    simp (maxSteps := 2000000) (disch := first | assumption | simp [es, Env.sz_put]) only [WO_nil, List.getElem?_cons_zero, List.getElem?_cons_succ, WO_cons, WD_nil, WD_cons, List.nil_append, List.append_nil, List.cons_append, sel, nthO, wantedA_free, wantedA_by, putA_into, putA_no, execA, opv, opvs, ofConst, ofScalar, pureR, newR, skipR, builtinA, Env.get_put, binA, arith, Nat.reduceEqDiff, Nat.reduceAdd, reduceIte, bind2, Heap.bump0, isConst, beq_self_eq_true, Bool.false_eq_true, Bool.or_true, Bool.or_false, Bool.not_true, Bool.not_false, undefA, Option.map_some, and_self, bTF, bFT, e6, e7, build1, parts, p1]
    subst hK; clear hall; try simp only [Then]
    simp only [Then, BlockQ, LoopQ, EndsR, Nat.reduceEqDiff, reduceIte]
    refine W.reg 0 rfl fun K all hK hall => ?_
    simp (maxSteps := 2000000) (disch := first | assumption | simp [es, Env.sz_put]) only [WO_nil, List.getElem?_cons_zero, List.getElem?_cons_succ, WO_cons, WD_nil, WD_cons, List.nil_append, List.append_nil, List.cons_append, sel, nthO, wantedA_free, wantedA_by, putA_into, putA_no, execA, opv, opvs, ofConst, ofScalar, pureR, newR, skipR, builtinA, Env.get_put, binA, arith, Nat.reduceEqDiff, Nat.reduceAdd, reduceIte, bind2, Heap.bump0, isConst, beq_self_eq_true, Bool.false_eq_true, Bool.or_true, Bool.or_false, Bool.not_true, Bool.not_false, undefA, Option.map_some, and_self, bTF, bFT, e21]
    subst hK; clear hall; try simp only [Then]
    simp only [Then, BlockQ, LoopQ, EndsR, Nat.reduceEqDiff, reduceIte]
    refine ⟨N - (i + 1), by omega, i + 1, c', rfl, by omega, by rw [List.replicate_succ']; exact p2, by omega, ?_, ?_, ?_, ?_, ?_, ?_⟩
    · simp only [Env.sz_put, es]
    · simp only [Env.get_put, Nat.reduceEqDiff, reduceIte, e5]
    · simp only [Env.get_put, Nat.reduceEqDiff, reduceIte, e6]
    · simp only [Env.get_put, Nat.reduceEqDiff, reduceIte]
    · simp only [Env.get_put, Nat.reduceEqDiff, reduceIte, e20]
    · simp only [Env.get_put, Nat.reduceEqDiff, reduceIte]
      rw [wrap_small (by omega) (by omega)]; simp
  have c1' : ¬ (i : Int) < (N : Int) := by omega
  refine W.seqT (W.condF (by simp only [opv, ofConst, ofScalar, Env.get_put, Nat.reduceEqDiff, reduceIte, c1', decide_false]) ?_)
  refine W.exit ?_
  simp only [Then, BlockQ, LoopQ, EndsR, Nat.reduceEqDiff, reduceIte]
  have hiN : i = N := by omega
  subst hiN
  obtain ⟨f, h2, k3, k4, k5⟩ := build_runs hO.holds (fun w hw => by rw [List.mem_replicate] at hw; omega)
  rw [hf] at k4 k5
  simp only at k4 k5
  refine W.seqR 0 rfl fun K all hK hall => ?_
  simp (maxSteps := 2000000) (disch := first | assumption | simp [es, Env.sz_put]) only [WO_nil, List.getElem?_cons_zero, List.getElem?_cons_succ, WO_cons, WD_nil, WD_cons, List.nil_append, List.append_nil, List.cons_append, sel, nthO, wantedA_free, wantedA_by, putA_into, putA_no, execA, opv, opvs, ofConst, ofScalar, pureR, newR, skipR, builtinA, Env.get_put, binA, arith, Nat.reduceEqDiff, Nat.reduceAdd, reduceIte, bind2, Heap.bump0, isConst, beq_self_eq_true, Bool.false_eq_true, Bool.or_true, Bool.or_false, Bool.not_true, Bool.not_false, undefA, Option.map_some, and_self, bTF, bFT, e7]
  refine CallK.into (k5) (by simp [es, Env.sz_put]) ?_
  simp (maxSteps := 2000000) (disch := first | assumption | simp [es, Env.sz_put]) only [WO_nil, List.getElem?_cons_zero, List.getElem?_cons_succ, WO_cons, WD_nil, WD_cons, List.nil_append, List.append_nil, List.cons_append, sel, nthO, wantedA_free, wantedA_by, putA_into, putA_no, execA, opv, opvs, ofConst, ofScalar, pureR, newR, skipR, builtinA, Env.get_put, binA, arith, Nat.reduceEqDiff, Nat.reduceAdd, reduceIte, bind2, Heap.bump0, isConst, beq_self_eq_true, Bool.false_eq_true, Bool.or_true, Bool.or_false, Bool.not_true, Bool.not_false, undefA, Option.map_some, and_self, bTF, bFT]
  subst hK; clear hall; try simp only [Then]
  refine W.seqA ?_
  have hlen := k4.holds.len
  have hlen2 : (((List.range (i * V)).map fun j => ((j % i : Nat) : Int)).length : Int) = (i : Int) * V := by simp
  rw [hlen2] at hlen
  have z0 : ((0 : Int) != 0) = false := rfl
  have z1 : ((i : Int) * V != (i : Int) * V) = false := by simp
  have z2 : IntKind.i64.wrap ((i : Int) * V) = (i : Int) * V := by
    have : ((i : Int) * V) = ((i * V : Nat) : Int) := by simp
    rw [this]; exact wrap_small (by omega) (by omega)
  refine W.seqR 0 rfl fun K all hK hall => ?_
  have g2 : (all[2]?).bind (·.dst) = some 35 := by subst hall; rfl
  simp (maxSteps := 2000000) (disch := first | assumption | simp [es, Env.sz_put]) only [WO_nil, List.getElem?_cons_zero, List.getElem?_cons_succ, WO_cons, WD_nil, WD_cons, List.nil_append, List.append_nil, List.cons_append, sel, nthO, wantedA_free, wantedA_by, putA_into, putA_no, execA, opv, opvs, ofConst, ofScalar, pureR, newR, skipR, builtinA, Env.get_put, binA, arith, Nat.reduceEqDiff, Nat.reduceAdd, reduceIte, bind2, Heap.bump0, isConst, beq_self_eq_true, Bool.false_eq_true, Bool.or_true, Bool.or_false, Bool.not_true, Bool.not_false, undefA, Option.map_some, and_self, bTF, bFT, e5, e6, z0, hlen, z1, z2]
  subst hK; clear hall; try simp only [Then]
  refine W.seqT (W.condF (by simp only [opv, ofConst, ofScalar, Env.get_put, Nat.reduceEqDiff, reduceIte, z1]) ?_)
  refine W.skip ?_
  simp only [Then]
  refine W.seqA ?_
  refine W.seqR 0 rfl fun K all hK hall => ?_
  simp (maxSteps := 2000000) (disch := first | assumption | simp [es, Env.sz_put]) only [WO_nil, List.getElem?_cons_zero, List.getElem?_cons_succ, WO_cons, WD_nil, WD_cons, List.nil_append, List.append_nil, List.cons_append, sel, nthO, wantedA_free, wantedA_by, putA_into, putA_no, execA, opv, opvs, ofConst, ofScalar, pureR, newR, skipR, builtinA, Env.get_put, binA, arith, Nat.reduceEqDiff, Nat.reduceAdd, reduceIte, bind2, Heap.bump0, isConst, beq_self_eq_true, Bool.false_eq_true, Bool.or_true, Bool.or_false, Bool.not_true, Bool.not_false, undefA, Option.map_some, and_self, bTF, bFT, hlen]
  subst hK; clear hall; try simp only [Then]
  refine W.seqLoop (fun m s => ∃ (j : Nat), m = i * V - j ∧ j ≤ i * V ∧ s.heap = h2 ∧ s.env.sz = 57 ∧ s.env.get 5 = vi i ∧ s.env.get 43 = f ∧ s.env.get 44 = vi ((i : Int) * V) ∧ s.env.get 45 = vi j) (i * V) ⟨0, rfl, by omega, rfl, ?_, ?_, ?_, ?_, ?_⟩ ?_
  · simp only [Env.sz_put, es]
  · simp only [Env.get_put, Nat.reduceEqDiff, reduceIte, e5]
  · simp only [Env.get_put, Nat.reduceEqDiff, reduceIte]
  · simp only [Env.get_put, Nat.reduceEqDiff, reduceIte]
  · simp only [Env.get_put, Nat.reduceEqDiff, reduceIte]; rfl
  clear e5 e6 e7 e20 e21 es e
  rintro m ⟨e, h3⟩ ⟨j, rfl, hj, hh, es, e5, e43, e44, e45⟩
  dsimp only at hh es e5 e43 e44 e45
  subst hh
  have hc : ((i : Int) * V) = ((i * V : Nat) : Int) := by simp
  refine W.seqR 0 rfl fun K all hK hall => ?_
  simp (maxSteps := 2000000) (disch := first | assumption | simp [es, Env.sz_put]) only [WO_nil, List.getElem?_cons_zero, List.getElem?_cons_succ, WO_cons, WD_nil, WD_cons, List.nil_append, List.append_nil, List.cons_append, sel, nthO, wantedA_free, wantedA_by, putA_into, putA_no, execA, opv, opvs, ofConst, ofScalar, pureR, newR, skipR, builtinA, Env.get_put, binA, arith, Nat.reduceEqDiff, Nat.reduceAdd, reduceIte, bind2, Heap.bump0, isConst, beq_self_eq_true, Bool.false_eq_true, Bool.or_true, Bool.or_false, Bool.not_true, Bool.not_false, undefA, Option.map_some, and_self, bTF, bFT, e44, e45]
  subst hK; clear hall; try simp only [Then]
  by_cases c2 : j < i * V
  · have c2' : (j : Int) < (i : Int) * V := by omega
    obtain ⟨b1, o1, q1, q2⟩ := k4.holds.addr (i := (j : Int)) (by omega) (by rw [hlen2]; exact c2')
    have q2 : loadA Try.prog h3 3 (.ptr b1 o1) = some (vi ((j % i : Nat) : Int)) := by rw [q2]; simp
    have hm : (j : Int).tmod (i : Int) = ((j % i : Nat) : Int) := by rw [Int.tmod_eq_emod_of_nonneg (by omega)]; rfl
    have hi0 : ¬ (i : Int) = 0 := by omega
    have z3 : (((j % i : Nat) : Int) != ((j % i : Nat) : Int)) = false := by simp
    refine W.seqT (W.condT (by simp only [opv, ofConst, ofScalar, Env.get_put, Nat.reduceEqDiff, reduceIte, c2', decide_true]) ?_)
    refine W.skip ?_
    simp only [Then]
    refine W.seqT (W.blockT ?_)
    refine W.seqR 0 rfl fun K all hK hall => ?_
    simp (maxSteps := 2000000) (disch := first | assumption | simp [es, Env.sz_put]) only [WO_nil, List.getElem?_cons_zero, List.getElem?_cons_succ, WO_cons, WD_nil, WD_cons, List.nil_append, List.append_nil, List.cons_append, sel, nthO, wantedA_free, wantedA_by, putA_into, putA_no, execA, opv, opvs, ofConst, ofScalar, pureR, newR, skipR, builtinA, Env.get_put, binA, arith, Nat.reduceEqDiff, Nat.reduceAdd, reduceIte, bind2, Heap.bump0, isConst, beq_self_eq_true, Bool.false_eq_true, Bool.or_true, Bool.or_false, Bool.not_true, Bool.not_false, undefA, Option.map_some, and_self, bTF, bFT, e43, e45, q1, q2]
    subst hK; clear hall; try simp only [Then]
    refine W.seqR 0 rfl fun K all hK hall => ?_
    simp (maxSteps := 2000000) (disch := first | assumption | simp [es, Env.sz_put]) only [WO_nil, List.getElem?_cons_zero, List.getElem?_cons_succ, WO_cons, WD_nil, WD_cons, List.nil_append, List.append_nil, List.cons_append, sel, nthO, wantedA_free, wantedA_by, putA_into, putA_no, execA, opv, opvs, ofConst, ofScalar, pureR, newR, skipR, builtinA, Env.get_put, binA, arith, Nat.reduceEqDiff, Nat.reduceAdd, reduceIte, bind2, Heap.bump0, isConst, beq_self_eq_true, Bool.false_eq_true, Bool.or_true, Bool.or_false, Bool.not_true, Bool.not_false, undefA, Option.map_some, and_self, bTF, bFT, e5, hm, hi0, z3]
    subst hK; clear hall; try simp only [Then]
    refine W.condF (by simp only [opv, ofConst, ofScalar, Env.get_put, Nat.reduceEqDiff, reduceIte, z3]) ?_
    refine W.skip ?_
    simp only [Then, BlockQ, LoopQ, EndsR, Nat.reduceEqDiff, reduceIte]
    refine W.reg 0 rfl fun K all hK hall => ?_
    simp (maxSteps := 2000000) (disch := first | assumption | simp [es, Env.sz_put]) only [WO_nil, List.getElem?_cons_zero, List.getElem?_cons_succ, WO_cons, WD_nil, WD_cons, List.nil_append, List.append_nil, List.cons_append, sel, nthO, wantedA_free, wantedA_by, putA_into, putA_no, execA, opv, opvs, ofConst, ofScalar, pureR, newR, skipR, builtinA, Env.get_put, binA, arith, Nat.reduceEqDiff, Nat.reduceAdd, reduceIte, bind2, Heap.bump0, isConst, beq_self_eq_true, Bool.false_eq_true, Bool.or_true, Bool.or_false, Bool.not_true, Bool.not_false, undefA, Option.map_some, and_self, bTF, bFT, e45]
    subst hK; clear hall; try simp only [Then]
    simp only [Then, BlockQ, LoopQ, EndsR, Nat.reduceEqDiff, reduceIte]
    refine ⟨i * V - (j + 1), by omega, j + 1, rfl, by omega, trivial, ?_, ?_, ?_, ?_, ?_⟩
    · simp only [Env.sz_put, es]
    · simp only [Env.get_put, Nat.reduceEqDiff, reduceIte, e5]
    · simp only [Env.get_put, Nat.reduceEqDiff, reduceIte, e43]
    · simp only [Env.get_put, Nat.reduceEqDiff, reduceIte, e44]
    · simp only [Env.get_put, Nat.reduceEqDiff, reduceIte]
      rw [wrap_small (by omega) (by omega)]; simp
  have c2' : ¬ (j : Int) < (i : Int) * V := by omega
  refine W.seqT (W.condF (by simp only [opv, ofConst, ofScalar, Env.get_put, Nat.reduceEqDiff, reduceIte, c2', decide_false]) ?_)
  refine W.exit ?_
  simp only [Then, BlockQ, LoopQ, EndsR, Nat.reduceEqDiff, reduceIte]
  refine W.seqR 0 rfl fun K all hK hall => ?_
  simp (maxSteps := 2000000) (disch := first | assumption | simp [es, Env.sz_put]) only [WO_nil, List.getElem?_cons_zero, List.getElem?_cons_succ, WO_cons, WD_nil, WD_cons, List.nil_append, List.append_nil, List.cons_append, sel, nthO, wantedA_free, wantedA_by, putA_into, putA_no, execA, opv, opvs, ofConst, ofScalar, pureR, newR, skipR, builtinA, Env.get_put, binA, arith, Nat.reduceEqDiff, Nat.reduceAdd, reduceIte, bind2, Heap.bump0, isConst, beq_self_eq_true, Bool.false_eq_true, Bool.or_true, Bool.or_false, Bool.not_true, Bool.not_false, undefA, Option.map_some, and_self, bTF, bFT]
  refine CallK.into (awake_in _) (by simp [es, Env.sz_put]) ?_
  simp (maxSteps := 2000000) (disch := first | assumption | simp [es, Env.sz_put]) only [WO_nil, List.getElem?_cons_zero, List.getElem?_cons_succ, WO_cons, WD_nil, WD_cons, List.nil_append, List.append_nil, List.cons_append, sel, nthO, wantedA_free, wantedA_by, putA_into, putA_no, execA, opv, opvs, ofConst, ofScalar, pureR, newR, skipR, builtinA, Env.get_put, binA, arith, Nat.reduceEqDiff, Nat.reduceAdd, reduceIte, bind2, Heap.bump0, isConst, beq_self_eq_true, Bool.false_eq_true, Bool.or_true, Bool.or_false, Bool.not_true, Bool.not_false, undefA, Option.map_some, and_self, bTF, bFT]
  subst hK; clear hall; try simp only [Then]
  refine W.ret ?_
  simp only [Then, BlockQ, LoopQ, EndsR, Nat.reduceEqDiff, reduceIte]
  refine ⟨_, rfl, ?_⟩
  simp only [oneOf, Env.get_put, Nat.reduceEqDiff, reduceIte]

end Go.Proofs.Ytmggkamdihgmiaa.AM
