/-
  The frame laws, part 10: FrameTurns' walk.
-/
import Derived.Test.YtmggkamdihgmiaaFr9
import Derived.Test.YtmggkamdihgmiaaFr7
namespace Go.Proofs.Ytmggkamdihgmiaa.AM
open Go Go.Proofs
set_option linter.unusedVariables false
set_option linter.unusedSimpArgs false

theorem und36 : Try.prog.underlying 36 = some (.int .u32) := by kernel_rfl
theorem und4 : Try.prog.underlying 4 = some .bool := by kernel_rfl

theorem conv363 (h : Heap) (f : Nat) (n : Int) (h0 : 0 ≤ n ∧ n ≤ 4294967295) : convA Try.prog h f 36 3 (.int .u32 n) = some (vi n, h) := by
  simp only [convA, und36, und3]
  rw [wrap_small (by omega) (by omega)]

theorem Holds.cutTo {h : Heap} {a : AV} {l : List Int} (ha : Holds h a l) (n : Nat) : ∃ a', (∀ h', sliceOfA Try.prog h' 22 a none (some (vi (if (n : Int) < l.length then n else l.length))) none = some a') ∧ Holds h a' (l.take n) := by
  rcases ha with ⟨rfl, rfl⟩ | ⟨b, o, cap, ex, rfl, h1, h2, h3, h4⟩
  · refine ⟨.nils, fun h' => ?_, .inl ⟨rfl, by simp⟩⟩
    have : (if (n : Int) < (([] : List Int).length : Int) then (n : Int) else (([] : List Int).length : Int)) = 0 := by simp; omega
    rw [this]
    simp only [sliceOfA, und22, sizeA3, boundA]
    rfl
  · have hm : (if (n : Int) < (l.length : Int) then (n : Int) else (l.length : Int)) = ((l.take n).length : Int) := by
      rw [List.length_take]; split <;> omega
    have hle : (l.take n).length ≤ l.length := by rw [List.length_take]; omega
    refine ⟨.slice b o (l.take n).length cap ex 1, fun h' => ?_, .inr ⟨b, o, cap, ex, rfl, ?_, h2, by omega, by omega⟩⟩
    · rw [hm]
      simp only [sliceOfA, und22, sizeA3, boundA, Option.isSome_none, Option.isNone_some, Bool.false_and, Bool.or_false]
      rw [show Nat.beq 1 1 = true from rfl]
      simp only [Bool.not_true, cond_false]
      rw [if_pos (by omega)]
      simp
    · unfold cut at h1 ⊢
      cases hb : Nat.ble (o + l.length) (rdA h b).length with
      | false => rw [hb] at h1; simp at h1
      | true =>
        rw [hb] at h1
        simp only [cond_true, Option.some.injEq] at h1
        have hb' : Nat.ble (o + (l.take n).length) (rdA h b).length = true := by
          rw [Nat.ble_eq] at hb ⊢; omega
        rw [hb', cond_true]
        have : List.take (l.take n).length (List.drop o (rdA h b)) = List.take (l.take n).length (List.take l.length (List.drop o (rdA h b))) := by
          rw [List.take_take, Nat.min_eq_left hle]
        rw [this, h1]
        congr 1
        unfold ints
        rw [← List.map_take, List.length_take]
        congr 1
        by_cases hq : n ≤ l.length
        · rw [Nat.min_eq_left hq]
        · rw [Nat.min_eq_right (by omega), List.take_of_length_le (by omega), List.take_of_length_le (by omega)]

set_option maxHeartbeats 2000000 in
theorem turns_runs {h : Heap} {a : AV} {l0 : List Int} {u w : Int} (ha0 : Holds h a l0) (hu : 0 ≤ u ∧ u ≤ 4294967295) : ∃ h', Runs Try.prog XA 6 [a, .int .u32 u, vi w] h (.ret (.bool true)) h' := by
  suffices hs : ∃ r h', Runs Try.prog XA 6 [a, .int .u32 u, vi w] h r h' ∧ r = .ret (.bool true) by
    obtain ⟨r, h', h1, rfl⟩ := hs
    exact ⟨h', h1⟩
  obtain ⟨a', hcut, ha⟩ := ha0.cutTo 256
  have hcut : ∀ h', sliceOfA Try.prog h' 22 a none (some (.int .i64 (if (256 : Int) < l0.length then 256 else l0.length))) none = some a' := hcut
  have hl0 := ha0.len
  have hla := ha.len
  have hl256 : (l0.take 256).length ≤ 256 := by rw [List.length_take]; omega
  generalize l0.take 256 = l at ha hla hl256
  have t0 : u.tmod 1000001 = u % 1000001 := Int.tmod_eq_emod_of_nonneg hu.1
  obtain ⟨t, ht, ht0, ht1⟩ : ∃ t : Int, u.tmod 1000001 = t ∧ 0 ≤ t ∧ t ≤ 1000000 := ⟨_, rfl, by omega, by omega⟩
  refine Runs.ends rfl Try.func6 rfl ?_
  generalize hE : Env.init [a, .int .u32 u, vi w] Try.f6.ntmps = e
  have e0 : e.get 0 = a := by subst hE; rfl
  have e1 : e.get 1 = .int .u32 u := by subst hE; rfl
  have e2 : e.get 2 = vi w := by subst hE; rfl
  have es : e.sz = 129 := by subst hE; rfl
  clear hE
  refine W.seqR 0 rfl fun K all hK hall => ?_
  simp (maxSteps := 2000000) (disch := first | assumption | simp [es, Env.sz_put]) only [WO_nil, List.getElem?_cons_zero, List.getElem?_cons_succ, WO_cons, WD_nil, WD_cons, List.nil_append, List.append_nil, List.cons_append, sel, nthO, wantedA_free, wantedA_by, putA_into, putA_no, execA, opv, opvs, ofConst, ofScalar, pureR, newR, skipR, builtinA, Env.get_put, binA, arith, Nat.reduceEqDiff, Nat.reduceAdd, reduceIte, bind2, Heap.bump0, isConst, beq_self_eq_true, Bool.false_eq_true, Bool.or_true, Bool.or_false, Bool.not_true, Bool.not_false, undefA, Option.map_some, and_self, bTF, bFT]
  subst hK; clear hall; try simp only [Then]
  refine W.seqR 0 rfl fun K all hK hall => ?_
  simp (maxSteps := 2000000) (disch := first | assumption | simp [es, Env.sz_put]) only [WO_nil, List.getElem?_cons_zero, List.getElem?_cons_succ, WO_cons, WD_nil, WD_cons, List.nil_append, List.append_nil, List.cons_append, sel, nthO, wantedA_free, wantedA_by, putA_into, putA_no, execA, opv, opvs, ofConst, ofScalar, pureR, newR, skipR, builtinA, Env.get_put, binA, arith, Nat.reduceEqDiff, Nat.reduceAdd, reduceIte, bind2, Heap.bump0, isConst, beq_self_eq_true, Bool.false_eq_true, Bool.or_true, Bool.or_false, Bool.not_true, Bool.not_false, undefA, Option.map_some, and_self, bTF, bFT, e0, hl0, minmaxA, opvO, hcut]
  subst hK; clear hall; try simp only [Then]
  have n16 : ¬ (1000001 : Int) = 0 := by omega
  have k1 := fun h f => conv363 h f t (by omega)
  refine W.seqR 4 rfl fun K all hK hall => ?_
  simp (maxSteps := 2000000) (disch := first | assumption | simp [es, Env.sz_put]) only [WO_nil, List.getElem?_cons_zero, List.getElem?_cons_succ, WO_cons, WD_nil, WD_cons, List.nil_append, List.append_nil, List.cons_append, sel, nthO, wantedA_free, wantedA_by, putA_into, putA_no, execA, opv, opvs, ofConst, ofScalar, pureR, newR, skipR, builtinA, Env.get_put, binA, arith, Nat.reduceEqDiff, Nat.reduceAdd, reduceIte, bind2, Heap.bump0, isConst, beq_self_eq_true, Bool.false_eq_true, Bool.or_true, Bool.or_false, Bool.not_true, Bool.not_false, undefA, Option.map_some, and_self, bTF, bFT, e1, n16, ht, k1]
  subst hK; clear hall; try simp only [Then]
  have ha1 : Holds (h.bump 4) a' l := ha.ext (Kp.bump h 4)
  obtain ⟨h2, kp2, r2⟩ := next_runs (t := t) (w := w) ha1
  have nx := nextS_nx l ht0 w
  generalize hr : nextS l t w = r at nx r2
  refine W.seqR 0 rfl fun K all hK hall => ?_
  simp (maxSteps := 2000000) (disch := first | assumption | simp [es, Env.sz_put]) only [WO_nil, List.getElem?_cons_zero, List.getElem?_cons_succ, WO_cons, WD_nil, WD_cons, List.nil_append, List.append_nil, List.cons_append, sel, nthO, wantedA_free, wantedA_by, putA_into, putA_no, execA, opv, opvs, ofConst, ofScalar, pureR, newR, skipR, builtinA, Env.get_put, binA, arith, Nat.reduceEqDiff, Nat.reduceAdd, reduceIte, bind2, Heap.bump0, isConst, beq_self_eq_true, Bool.false_eq_true, Bool.or_true, Bool.or_false, Bool.not_true, Bool.not_false, undefA, Option.map_some, and_self, bTF, bFT, e2]
  refine CallK.into (r2) (by simp [es, Env.sz_put]) ?_
  simp (maxSteps := 2000000) (disch := first | assumption | simp [es, Env.sz_put]) only [WO_nil, List.getElem?_cons_zero, List.getElem?_cons_succ, WO_cons, WD_nil, WD_cons, List.nil_append, List.append_nil, List.cons_append, sel, nthO, wantedA_free, wantedA_by, putA_into, putA_no, execA, opv, opvs, ofConst, ofScalar, pureR, newR, skipR, builtinA, Env.get_put, binA, arith, Nat.reduceEqDiff, Nat.reduceAdd, reduceIte, bind2, Heap.bump0, isConst, beq_self_eq_true, Bool.false_eq_true, Bool.or_true, Bool.or_false, Bool.not_true, Bool.not_false, undefA, Option.map_some, and_self, bTF, bFT]
  subst hK; clear hall; try simp only [Then]
  have ha2 := ha1.ext kp2
  refine W.seqR 0 rfl fun K all hK hall => ?_
  simp (maxSteps := 2000000) (disch := first | assumption | simp [es, Env.sz_put]) only [WO_nil, List.getElem?_cons_zero, List.getElem?_cons_succ, WO_cons, WD_nil, WD_cons, List.nil_append, List.append_nil, List.cons_append, sel, nthO, wantedA_free, wantedA_by, putA_into, putA_no, execA, opv, opvs, ofConst, ofScalar, pureR, newR, skipR, builtinA, Env.get_put, binA, arith, Nat.reduceEqDiff, Nat.reduceAdd, reduceIte, bind2, Heap.bump0, isConst, beq_self_eq_true, Bool.false_eq_true, Bool.or_true, Bool.or_false, Bool.not_true, Bool.not_false, undefA, Option.map_some, and_self, bTF, bFT]
  subst hK; clear hall; try simp only [Then]
  refine W.seqA ?_
  refine W.seqR 0 rfl fun K all hK hall => ?_
  simp (maxSteps := 2000000) (disch := first | assumption | simp [es, Env.sz_put]) only [WO_nil, List.getElem?_cons_zero, List.getElem?_cons_succ, WO_cons, WD_nil, WD_cons, List.nil_append, List.append_nil, List.cons_append, sel, nthO, wantedA_free, wantedA_by, putA_into, putA_no, execA, opv, opvs, ofConst, ofScalar, pureR, newR, skipR, builtinA, Env.get_put, binA, arith, Nat.reduceEqDiff, Nat.reduceAdd, reduceIte, bind2, Heap.bump0, isConst, beq_self_eq_true, Bool.false_eq_true, Bool.or_true, Bool.or_false, Bool.not_true, Bool.not_false, undefA, Option.map_some, and_self, bTF, bFT, hla]
  subst hK; clear hall; try simp only [Then]
  refine W.seqLoop (fun m s => ∃ (i : Nat), m = l.length - i ∧ i ≤ l.length ∧ s.heap = h2 ∧ s.env.sz = 129 ∧ s.env.get 0 = a' ∧ s.env.get 2 = vi w ∧ s.env.get 7 = vi t ∧ s.env.get 8 = vi r ∧ s.env.get 9 = .bool (decide (w ∈ l.take i)) ∧ s.env.get 24 = a' ∧ s.env.get 25 = vi l.length ∧ s.env.get 26 = vi i) l.length ⟨0, rfl, by omega, rfl, ?_, ?_, ?_, ?_, ?_, ?_, ?_, ?_, ?_⟩ ?_
  · simp only [Env.sz_put, es]
  · simp only [Env.get_put, Nat.reduceEqDiff, reduceIte]
  · simp only [Env.get_put, Nat.reduceEqDiff, reduceIte, e2]
  · simp only [Env.get_put, Nat.reduceEqDiff, reduceIte]
  · simp only [Env.get_put, Nat.reduceEqDiff, reduceIte]
  · simp only [Env.get_put, Nat.reduceEqDiff, reduceIte]; simp
  · simp only [Env.get_put, Nat.reduceEqDiff, reduceIte]
  · simp only [Env.get_put, Nat.reduceEqDiff, reduceIte]
  · simp only [Env.get_put, Nat.reduceEqDiff, reduceIte]; rfl
  clear e0 e1 e2 es e
  rintro m ⟨e, h3⟩ ⟨i, rfl, hi, hh, es, e0, e2, e7, e8, e9, e24, e25, e26⟩
  dsimp only at hh es e0 e2 e7 e8 e9 e24 e25 e26
  subst hh
  refine W.seqR 0 rfl fun K all hK hall => ?_
  simp (maxSteps := 2000000) (disch := first | assumption | simp [es, Env.sz_put]) only [WO_nil, List.getElem?_cons_zero, List.getElem?_cons_succ, WO_cons, WD_nil, WD_cons, List.nil_append, List.append_nil, List.cons_append, sel, nthO, wantedA_free, wantedA_by, putA_into, putA_no, execA, opv, opvs, ofConst, ofScalar, pureR, newR, skipR, builtinA, Env.get_put, binA, arith, Nat.reduceEqDiff, Nat.reduceAdd, reduceIte, bind2, Heap.bump0, isConst, beq_self_eq_true, Bool.false_eq_true, Bool.or_true, Bool.or_false, Bool.not_true, Bool.not_false, undefA, Option.map_some, and_self, bTF, bFT, e25, e26]
  subst hK; clear hall; try simp only [Then]
  by_cases c1 : i < l.length
  · have c1' : (i : Int) < (l.length : Int) := by omega
    obtain ⟨b1, o1, q1, q2⟩ := ha2.addr (i := (i : Int)) (by omega) c1'
    have q2 : loadA Try.prog h3 3 (.ptr b1 o1) = some (vi (l[i])) := q2
    refine W.seqT (W.condT (by simp only [opv, ofConst, ofScalar, Env.get_put, Nat.reduceEqDiff, reduceIte, c1', decide_true]) ?_)
    refine W.skip ?_
    simp only [Then]
    refine W.seqT (W.blockT ?_)
    refine W.seqR 0 rfl fun K all hK hall => ?_
    simp (maxSteps := 2000000) (disch := first | assumption | simp [es, Env.sz_put]) only [WO_nil, List.getElem?_cons_zero, List.getElem?_cons_succ, WO_cons, WD_nil, WD_cons, List.nil_append, List.append_nil, List.cons_append, sel, nthO, wantedA_free, wantedA_by, putA_into, putA_no, execA, opv, opvs, ofConst, ofScalar, pureR, newR, skipR, builtinA, Env.get_put, binA, arith, Nat.reduceEqDiff, Nat.reduceAdd, reduceIte, bind2, Heap.bump0, isConst, beq_self_eq_true, Bool.false_eq_true, Bool.or_true, Bool.or_false, Bool.not_true, Bool.not_false, undefA, Option.map_some, and_self, bTF, bFT, e24, e26, q1, q2]
    subst hK; clear hall; try simp only [Then]
    have ew : IntKind.i64.wrap ((i : Int) + 1) = ((i + 1 : Nat) : Int) := by
      rw [wrap_small (by omega) (by omega)]; simp
    have et : decide (w ∈ l.take (i + 1)) = (decide (w ∈ l.take i) || (l[i] == w)) := by
      rw [List.take_succ_eq_append_getElem c1]
      have e3 : (l[i] == w) = decide (w = l[i]) := by
        by_cases q : l[i] = w
        · subst q; simp
        · have q' : ¬ w = l[i] := fun x => q x.symm
          simp [q, q']
      rw [e3]
      simp only [List.mem_append, List.mem_singleton, Bool.decide_or]
    refine W.reg 0 rfl fun K all hK hall => ?_
    have g1 : (all[1]?).bind (·.dst) = some 31 := by subst hall; rfl
    cases hb : decide (w ∈ l.take i) with
    | true =>
      rw [hb] at e9 et
      simp (maxSteps := 2000000) (disch := first | assumption | simp [es, Env.sz_put]) only [WO_nil, List.getElem?_cons_zero, List.getElem?_cons_succ, WO_cons, WD_nil, WD_cons, List.nil_append, List.append_nil, List.cons_append, sel, nthO, wantedA_free, wantedA_by, putA_into, putA_no, execA, opv, opvs, ofConst, ofScalar, pureR, newR, skipR, builtinA, Env.get_put, binA, arith, Nat.reduceEqDiff, Nat.reduceAdd, reduceIte, bind2, Heap.bump0, isConst, beq_self_eq_true, Bool.false_eq_true, Bool.or_true, Bool.or_false, Bool.not_true, Bool.not_false, undefA, Option.map_some, and_self, bTF, bFT, e9]
      subst hK; clear hall; try simp only [Then]
      simp only [Then, BlockQ, LoopQ, EndsR, Nat.reduceEqDiff, reduceIte]
      refine W.reg 0 rfl fun K all hK hall => ?_
      simp (maxSteps := 2000000) (disch := first | assumption | simp [es, Env.sz_put]) only [WO_nil, List.getElem?_cons_zero, List.getElem?_cons_succ, WO_cons, WD_nil, WD_cons, List.nil_append, List.append_nil, List.cons_append, sel, nthO, wantedA_free, wantedA_by, putA_into, putA_no, execA, opv, opvs, ofConst, ofScalar, pureR, newR, skipR, builtinA, Env.get_put, binA, arith, Nat.reduceEqDiff, Nat.reduceAdd, reduceIte, bind2, Heap.bump0, isConst, beq_self_eq_true, Bool.false_eq_true, Bool.or_true, Bool.or_false, Bool.not_true, Bool.not_false, undefA, Option.map_some, and_self, bTF, bFT, e26, ew]
      subst hK; clear hall; try simp only [Then]
      simp only [Then, BlockQ, LoopQ, EndsR, Nat.reduceEqDiff, reduceIte]
      refine ⟨l.length - (i + 1), by omega, i + 1, rfl, by omega, trivial, ?_, ?_, ?_, ?_, ?_, ?_, ?_, ?_, ?_⟩
      · simp only [Env.sz_put, es]
      · simp only [Env.get_put, Nat.reduceEqDiff, reduceIte, e0]
      · simp only [Env.get_put, Nat.reduceEqDiff, reduceIte, e2]
      · simp only [Env.get_put, Nat.reduceEqDiff, reduceIte, e7]
      · simp only [Env.get_put, Nat.reduceEqDiff, reduceIte, e8]
      · simp only [Env.get_put, Nat.reduceEqDiff, reduceIte, et, Bool.true_or]
      · simp only [Env.get_put, Nat.reduceEqDiff, reduceIte, e24]
      · simp only [Env.get_put, Nat.reduceEqDiff, reduceIte, e25]
      · simp only [Env.get_put, Nat.reduceEqDiff, reduceIte]
    | false =>
      rw [hb] at e9 et
      simp (maxSteps := 2000000) (disch := first | assumption | simp [es, Env.sz_put]) only [WO_nil, List.getElem?_cons_zero, List.getElem?_cons_succ, WO_cons, WD_nil, WD_cons, List.nil_append, List.append_nil, List.cons_append, sel, nthO, wantedA_free, wantedA_by, putA_into, putA_no, execA, opv, opvs, ofConst, ofScalar, pureR, newR, skipR, builtinA, Env.get_put, binA, arith, Nat.reduceEqDiff, Nat.reduceAdd, reduceIte, bind2, Heap.bump0, isConst, beq_self_eq_true, Bool.false_eq_true, Bool.or_true, Bool.or_false, Bool.not_true, Bool.not_false, undefA, Option.map_some, and_self, bTF, bFT, e2, e9]
      subst hK; clear hall; try simp only [Then]
      simp only [Then, BlockQ, LoopQ, EndsR, Nat.reduceEqDiff, reduceIte]
      refine W.reg 0 rfl fun K all hK hall => ?_
      simp (maxSteps := 2000000) (disch := first | assumption | simp [es, Env.sz_put]) only [WO_nil, List.getElem?_cons_zero, List.getElem?_cons_succ, WO_cons, WD_nil, WD_cons, List.nil_append, List.append_nil, List.cons_append, sel, nthO, wantedA_free, wantedA_by, putA_into, putA_no, execA, opv, opvs, ofConst, ofScalar, pureR, newR, skipR, builtinA, Env.get_put, binA, arith, Nat.reduceEqDiff, Nat.reduceAdd, reduceIte, bind2, Heap.bump0, isConst, beq_self_eq_true, Bool.false_eq_true, Bool.or_true, Bool.or_false, Bool.not_true, Bool.not_false, undefA, Option.map_some, and_self, bTF, bFT, e26, ew]
      subst hK; clear hall; try simp only [Then]
      simp only [Then, BlockQ, LoopQ, EndsR, Nat.reduceEqDiff, reduceIte]
      refine ⟨l.length - (i + 1), by omega, i + 1, rfl, by omega, trivial, ?_, ?_, ?_, ?_, ?_, ?_, ?_, ?_, ?_⟩
      · simp only [Env.sz_put, es]
      · simp only [Env.get_put, Nat.reduceEqDiff, reduceIte, e0]
      · simp only [Env.get_put, Nat.reduceEqDiff, reduceIte, e2]
      · simp only [Env.get_put, Nat.reduceEqDiff, reduceIte, e7]
      · simp only [Env.get_put, Nat.reduceEqDiff, reduceIte, e8]
      · simp only [Env.get_put, Nat.reduceEqDiff, reduceIte, et, Bool.false_or]
      · simp only [Env.get_put, Nat.reduceEqDiff, reduceIte, e24]
      · simp only [Env.get_put, Nat.reduceEqDiff, reduceIte, e25]
      · simp only [Env.get_put, Nat.reduceEqDiff, reduceIte]
  have c1' : ¬ (i : Int) < (l.length : Int) := by omega
  have hil : l.take i = l := List.take_of_length_le (by omega)
  rw [hil] at e9
  refine W.seqT (W.condF (by simp only [opv, ofConst, ofScalar, Env.get_put, Nat.reduceEqDiff, reduceIte, c1', decide_false]) ?_)
  refine W.exit ?_
  simp only [Then, BlockQ, LoopQ, EndsR, Nat.reduceEqDiff, reduceIte]
  have his := nx_is nx
  obtain ⟨nb1, nb2⟩ := nx_bounds nx
  have p1 : (decide (r ≥ 0) == decide (w ∈ l)) = true := by
    by_cases q : w ∈ l
    · simp [q, his.mpr q]
    · have : ¬ r ≥ 0 := fun x => q (his.mp x)
      simp only [q, this, decide_false, beq_self_eq_true]
  have p2 : decide (r ≥ (l.length : Int)) = false := by simp; omega
  have p3 : decide (r < -1) = false := by simp; omega
  refine W.seqA ?_
  refine W.seqR 0 rfl fun K all hK hall => ?_
  have g4 : (all[4]?).bind (·.dst) = some 41 := by subst hall; rfl
  have g10 : (all[10]?).bind (·.dst) = some 47 := by subst hall; rfl
  simp (maxSteps := 2000000) (disch := first | assumption | simp [es, Env.sz_put]) only [WO_nil, List.getElem?_cons_zero, List.getElem?_cons_succ, WO_cons, WD_nil, WD_cons, List.nil_append, List.append_nil, List.cons_append, sel, nthO, wantedA_free, wantedA_by, putA_into, putA_no, execA, opv, opvs, ofConst, ofScalar, pureR, newR, skipR, builtinA, Env.get_put, binA, arith, Nat.reduceEqDiff, Nat.reduceAdd, reduceIte, bind2, Heap.bump0, isConst, beq_self_eq_true, Bool.false_eq_true, Bool.or_true, Bool.or_false, Bool.not_true, Bool.not_false, undefA, Option.map_some, and_self, bTF, bFT, e0, e8, e9, eqA, und4, p1, p2, p3, hla]
  subst hK; clear hall; try simp only [Then]
  refine W.seqT (W.condF (by simp only [opv, ofConst, ofScalar, Env.get_put, Nat.reduceEqDiff, reduceIte, p3]) ?_)
  refine W.skip ?_
  simp only [Then]
  have hww : (w != w) = false := by simp
  refine W.seqM (fun o s => o = .norm ∧ Holds s.heap a' l ∧ s.env.sz = 129 ∧ s.env.get 0 = a' ∧ s.env.get 2 = vi w ∧ s.env.get 7 = vi t ∧ s.env.get 8 = vi r) ?_ ?_
  · rcases Int.lt_trichotomy r 0 with q | q | q
    · have z0 : (r == 0) = false := by simp; omega
      have z1 : decide (r > 0) = false := by simp; omega
      refine W.seqR 0 rfl fun K all hK hall => ?_
      have g2 : (all[2]?).bind (·.dst) = some 53 := by subst hall; rfl
      have g9 : (all[9]?).bind (·.dst) = some 60 := by subst hall; rfl
      have g12 : (all[12]?).bind (·.dst) = some 63 := by subst hall; rfl
      have g21 : (all[21]?).bind (·.dst) = some 72 := by subst hall; rfl
      have g30 : (all[30]?).bind (·.dst) = some 81 := by subst hall; rfl
      simp (maxSteps := 2000000) (disch := first | assumption | simp [es, Env.sz_put]) only [WO_nil, List.getElem?_cons_zero, List.getElem?_cons_succ, WO_cons, WD_nil, WD_cons, List.nil_append, List.append_nil, List.cons_append, sel, nthO, wantedA_free, wantedA_by, putA_into, putA_no, execA, opv, opvs, ofConst, ofScalar, pureR, newR, skipR, builtinA, Env.get_put, binA, arith, Nat.reduceEqDiff, Nat.reduceAdd, reduceIte, bind2, Heap.bump0, isConst, beq_self_eq_true, Bool.false_eq_true, Bool.or_true, Bool.or_false, Bool.not_true, Bool.not_false, undefA, Option.map_some, and_self, bTF, bFT, e8, z0, z1]
      subst hK; clear hall; try simp only [Then]
      refine W.condF (by simp only [opv, ofConst, ofScalar, Env.get_put, Nat.reduceEqDiff, reduceIte, z0]) ?_
      refine W.skip ?_
      refine ⟨rfl, ha2, ?_, ?_, ?_, ?_, ?_⟩
      · simp only [Env.sz_put, es]
      · simp only [Env.get_put, Nat.reduceEqDiff, reduceIte, e0]
      · simp only [Env.get_put, Nat.reduceEqDiff, reduceIte, e2]
      · simp only [Env.get_put, Nat.reduceEqDiff, reduceIte, e7]
      · simp only [Env.get_put, Nat.reduceEqDiff, reduceIte, e8]

    · subst q
      have ow := nx_zero ht0 nx
      obtain ⟨h4, kp4, r4⟩ := owner_runs (t := t) ha2
      rw [ow] at r4
      have z0 : decide ((0 : Int) > 0) = false := rfl
      refine W.seqR 0 rfl fun K all hK hall => ?_
      have g2 : (all[2]?).bind (·.dst) = some 53 := by subst hall; rfl
      have g9 : (all[9]?).bind (·.dst) = some 60 := by subst hall; rfl
      have g12 : (all[12]?).bind (·.dst) = some 63 := by subst hall; rfl
      have g21 : (all[21]?).bind (·.dst) = some 72 := by subst hall; rfl
      have g30 : (all[30]?).bind (·.dst) = some 81 := by subst hall; rfl
      simp (maxSteps := 2000000) (disch := first | assumption | simp [es, Env.sz_put]) only [WO_nil, List.getElem?_cons_zero, List.getElem?_cons_succ, WO_cons, WD_nil, WD_cons, List.nil_append, List.append_nil, List.cons_append, sel, nthO, wantedA_free, wantedA_by, putA_into, putA_no, execA, opv, opvs, ofConst, ofScalar, pureR, newR, skipR, builtinA, Env.get_put, binA, arith, Nat.reduceEqDiff, Nat.reduceAdd, reduceIte, bind2, Heap.bump0, isConst, beq_self_eq_true, Bool.false_eq_true, Bool.or_true, Bool.or_false, Bool.not_true, Bool.not_false, undefA, Option.map_some, and_self, bTF, bFT, e0, e7, e8]
      refine CallK.into (r4) (by simp [es, Env.sz_put]) ?_
      simp (maxSteps := 2000000) (disch := first | assumption | simp [es, Env.sz_put]) only [WO_nil, List.getElem?_cons_zero, List.getElem?_cons_succ, WO_cons, WD_nil, WD_cons, List.nil_append, List.append_nil, List.cons_append, sel, nthO, wantedA_free, wantedA_by, putA_into, putA_no, execA, opv, opvs, ofConst, ofScalar, pureR, newR, skipR, builtinA, Env.get_put, binA, arith, Nat.reduceEqDiff, Nat.reduceAdd, reduceIte, bind2, Heap.bump0, isConst, beq_self_eq_true, Bool.false_eq_true, Bool.or_true, Bool.or_false, Bool.not_true, Bool.not_false, undefA, Option.map_some, and_self, bTF, bFT, e2, e8, hww, z0]
      subst hK; clear hall; try simp only [Then]
      refine W.condF (by simp only [opv, ofConst, ofScalar, Env.get_put, Nat.reduceEqDiff, reduceIte, hww]) ?_
      refine W.skip ?_
      refine ⟨rfl, ha2.ext kp4, ?_, ?_, ?_, ?_, ?_⟩
      · simp only [Env.sz_put, es]
      · simp only [Env.get_put, Nat.reduceEqDiff, reduceIte, e0]
      · simp only [Env.get_put, Nat.reduceEqDiff, reduceIte, e2]
      · simp only [Env.get_put, Nat.reduceEqDiff, reduceIte, e7]
      · simp only [Env.get_put, Nat.reduceEqDiff, reduceIte, e8]

    · obtain ⟨nx1, ow1, ow2⟩ := nx_pos ht0 nx q
      have z0 : (r == 0) = false := by simp; omega
      have z1 : decide (r > 0) = true := by simp; omega
      have w1 : IntKind.i64.wrap (t + 1) = t + 1 := wrap_small (by omega) (by omega)
      have w2 : IntKind.i64.wrap (r - 1) = r - 1 := wrap_small (by omega) (by omega)
      have w3 : IntKind.i64.wrap (t + r) = t + r := wrap_small (by omega) (by omega)
      have z2 : (r - 1 != r - 1) = false := by simp
      have z3 : (ownerS l t == w) = false := by simp [ow2]
      obtain ⟨h4, kp4, r4⟩ := next_runs (t := t + 1) (w := w) ha2
      rw [(nextS_nx l (show 0 ≤ t + 1 by omega) w).uniq nx1] at r4
      have ha4 := ha2.ext kp4
      obtain ⟨h5, kp5, r5⟩ := owner_runs (t := t + r) ha4
      rw [ow1] at r5
      have ha5 := ha4.ext kp5
      obtain ⟨h6, kp6, r6⟩ := owner_runs (t := t) ha5
      have ha6 := ha5.ext kp6
      refine W.seqR 0 rfl fun K all hK hall => ?_
      have g2 : (all[2]?).bind (·.dst) = some 53 := by subst hall; rfl
      have g9 : (all[9]?).bind (·.dst) = some 60 := by subst hall; rfl
      have g12 : (all[12]?).bind (·.dst) = some 63 := by subst hall; rfl
      have g21 : (all[21]?).bind (·.dst) = some 72 := by subst hall; rfl
      have g30 : (all[30]?).bind (·.dst) = some 81 := by subst hall; rfl
      simp (maxSteps := 2000000) (disch := first | assumption | simp [es, Env.sz_put]) only [WO_nil, List.getElem?_cons_zero, List.getElem?_cons_succ, WO_cons, WD_nil, WD_cons, List.nil_append, List.append_nil, List.cons_append, sel, nthO, wantedA_free, wantedA_by, putA_into, putA_no, execA, opv, opvs, ofConst, ofScalar, pureR, newR, skipR, builtinA, Env.get_put, binA, arith, Nat.reduceEqDiff, Nat.reduceAdd, reduceIte, bind2, Heap.bump0, isConst, beq_self_eq_true, Bool.false_eq_true, Bool.or_true, Bool.or_false, Bool.not_true, Bool.not_false, undefA, Option.map_some, and_self, bTF, bFT, e0, e2, e7, e8, z0, z1, w1]
      refine CallK.into (r4) (by simp [es, Env.sz_put]) ?_
      simp (maxSteps := 2000000) (disch := first | assumption | simp [es, Env.sz_put]) only [WO_nil, List.getElem?_cons_zero, List.getElem?_cons_succ, WO_cons, WD_nil, WD_cons, List.nil_append, List.append_nil, List.cons_append, sel, nthO, wantedA_free, wantedA_by, putA_into, putA_no, execA, opv, opvs, ofConst, ofScalar, pureR, newR, skipR, builtinA, Env.get_put, binA, arith, Nat.reduceEqDiff, Nat.reduceAdd, reduceIte, bind2, Heap.bump0, isConst, beq_self_eq_true, Bool.false_eq_true, Bool.or_true, Bool.or_false, Bool.not_true, Bool.not_false, undefA, Option.map_some, and_self, bTF, bFT, e0, e7, e8, w2, w3, z2]
      refine CallK.into (r5) (by simp [es, Env.sz_put]) ?_
      simp (maxSteps := 2000000) (disch := first | assumption | simp [es, Env.sz_put]) only [WO_nil, List.getElem?_cons_zero, List.getElem?_cons_succ, WO_cons, WD_nil, WD_cons, List.nil_append, List.append_nil, List.cons_append, sel, nthO, wantedA_free, wantedA_by, putA_into, putA_no, execA, opv, opvs, ofConst, ofScalar, pureR, newR, skipR, builtinA, Env.get_put, binA, arith, Nat.reduceEqDiff, Nat.reduceAdd, reduceIte, bind2, Heap.bump0, isConst, beq_self_eq_true, Bool.false_eq_true, Bool.or_true, Bool.or_false, Bool.not_true, Bool.not_false, undefA, Option.map_some, and_self, bTF, bFT, e0, e2, e7, hww]
      refine CallK.into (r6) (by simp [es, Env.sz_put]) ?_
      simp (maxSteps := 2000000) (disch := first | assumption | simp [es, Env.sz_put]) only [WO_nil, List.getElem?_cons_zero, List.getElem?_cons_succ, WO_cons, WD_nil, WD_cons, List.nil_append, List.append_nil, List.cons_append, sel, nthO, wantedA_free, wantedA_by, putA_into, putA_no, execA, opv, opvs, ofConst, ofScalar, pureR, newR, skipR, builtinA, Env.get_put, binA, arith, Nat.reduceEqDiff, Nat.reduceAdd, reduceIte, bind2, Heap.bump0, isConst, beq_self_eq_true, Bool.false_eq_true, Bool.or_true, Bool.or_false, Bool.not_true, Bool.not_false, undefA, Option.map_some, and_self, bTF, bFT, e2, z3]
      subst hK; clear hall; try simp only [Then]
      refine W.condF (by simp only [opv, ofConst, ofScalar, Env.get_put, Nat.reduceEqDiff, reduceIte, z3]) ?_
      refine W.skip ?_
      refine ⟨rfl, ha6, ?_, ?_, ?_, ?_, ?_⟩
      · simp only [Env.sz_put, es]
      · simp only [Env.get_put, Nat.reduceEqDiff, reduceIte, e0]
      · simp only [Env.get_put, Nat.reduceEqDiff, reduceIte, e2]
      · simp only [Env.get_put, Nat.reduceEqDiff, reduceIte, e7]
      · simp only [Env.get_put, Nat.reduceEqDiff, reduceIte, e8]

  · clear e0 e2 e7 e8 e9 e24 e25 e26 es ha2 e
    rintro o ⟨e, h4⟩ ⟨rfl, ha4, es, e0, e2, e7, e8⟩
    dsimp only at ha4 es e0 e2 e7 e8
    simp only [Then]
    have w1 : IntKind.i64.wrap (t + l.length) = t + l.length := wrap_small (by omega) (by omega)
    have w2 : IntKind.i64.wrap (-1 - t) = -1 - t := wrap_small (by omega) (by omega)
    obtain ⟨h5, kp5, r5⟩ := owner_runs (t := t) ha4
    have ha5 := ha4.ext kp5
    obtain ⟨h6, kp6, r6⟩ := owner_runs (t := t + l.length) ha5
    rw [ownerS_round l ht0] at r6
    have ha6 := ha5.ext kp6
    obtain ⟨h7, kp7, r7⟩ := next_runs (t := t + l.length) (w := w) ha6
    rw [(nextS_nx l (show 0 ≤ t + (l.length : Int) by omega) w).uniq (nx_round nx)] at r7
    have ha7 := ha6.ext kp7
    obtain ⟨h8, kp8, r8⟩ := next_runs (t := -1 - t) (w := w) ha7
    rw [nextS_neg l (by omega)] at r8
    have ha8 := ha7.ext kp8
    obtain ⟨h9, kp9, r9⟩ := owner_runs (t := -1 - t) ha8
    rw [ownerS_neg l (by omega)] at r9
    refine W.seqR 0 rfl fun K all hK hall => ?_
    have g10 : (all[10]?).bind (·.dst) = some 100 := by subst hall; rfl
    have g21 : (all[21]?).bind (·.dst) = some 111 := by subst hall; rfl
    have g29 : (all[29]?).bind (·.dst) = some 119 := by subst hall; rfl
    have g36 : (all[36]?).bind (·.dst) = some 126 := by subst hall; rfl
    simp (maxSteps := 2000000) (disch := first | assumption | simp [es, Env.sz_put]) only [WO_nil, List.getElem?_cons_zero, List.getElem?_cons_succ, WO_cons, WD_nil, WD_cons, List.nil_append, List.append_nil, List.cons_append, sel, nthO, wantedA_free, wantedA_by, putA_into, putA_no, execA, opv, opvs, ofConst, ofScalar, pureR, newR, skipR, builtinA, Env.get_put, binA, arith, Nat.reduceEqDiff, Nat.reduceAdd, reduceIte, bind2, Heap.bump0, isConst, beq_self_eq_true, Bool.false_eq_true, Bool.or_true, Bool.or_false, Bool.not_true, Bool.not_false, undefA, Option.map_some, and_self, bTF, bFT, e0, e7]
    refine CallK.into (r5) (by simp [es, Env.sz_put]) ?_
    simp (maxSteps := 2000000) (disch := first | assumption | simp [es, Env.sz_put]) only [WO_nil, List.getElem?_cons_zero, List.getElem?_cons_succ, WO_cons, WD_nil, WD_cons, List.nil_append, List.append_nil, List.cons_append, sel, nthO, wantedA_free, wantedA_by, putA_into, putA_no, execA, opv, opvs, ofConst, ofScalar, pureR, newR, skipR, builtinA, Env.get_put, binA, arith, Nat.reduceEqDiff, Nat.reduceAdd, reduceIte, bind2, Heap.bump0, isConst, beq_self_eq_true, Bool.false_eq_true, Bool.or_true, Bool.or_false, Bool.not_true, Bool.not_false, undefA, Option.map_some, and_self, bTF, bFT, e0, e7, hla, w1]
    refine CallK.into (r6) (by simp [es, Env.sz_put]) ?_
    simp (maxSteps := 2000000) (disch := first | assumption | simp [es, Env.sz_put]) only [WO_nil, List.getElem?_cons_zero, List.getElem?_cons_succ, WO_cons, WD_nil, WD_cons, List.nil_append, List.append_nil, List.cons_append, sel, nthO, wantedA_free, wantedA_by, putA_into, putA_no, execA, opv, opvs, ofConst, ofScalar, pureR, newR, skipR, builtinA, Env.get_put, binA, arith, Nat.reduceEqDiff, Nat.reduceAdd, reduceIte, bind2, Heap.bump0, isConst, beq_self_eq_true, Bool.false_eq_true, Bool.or_true, Bool.or_false, Bool.not_true, Bool.not_false, undefA, Option.map_some, and_self, bTF, bFT, e0, e2, e7, hla, w1]
    refine CallK.into (r7) (by simp [es, Env.sz_put]) ?_
    simp (maxSteps := 2000000) (disch := first | assumption | simp [es, Env.sz_put]) only [WO_nil, List.getElem?_cons_zero, List.getElem?_cons_succ, WO_cons, WD_nil, WD_cons, List.nil_append, List.append_nil, List.cons_append, sel, nthO, wantedA_free, wantedA_by, putA_into, putA_no, execA, opv, opvs, ofConst, ofScalar, pureR, newR, skipR, builtinA, Env.get_put, binA, arith, Nat.reduceEqDiff, Nat.reduceAdd, reduceIte, bind2, Heap.bump0, isConst, beq_self_eq_true, Bool.false_eq_true, Bool.or_true, Bool.or_false, Bool.not_true, Bool.not_false, undefA, Option.map_some, and_self, bTF, bFT, e0, e2, e7, e8, w2]
    refine CallK.into (r8) (by simp [es, Env.sz_put]) ?_
    simp (maxSteps := 2000000) (disch := first | assumption | simp [es, Env.sz_put]) only [WO_nil, List.getElem?_cons_zero, List.getElem?_cons_succ, WO_cons, WD_nil, WD_cons, List.nil_append, List.append_nil, List.cons_append, sel, nthO, wantedA_free, wantedA_by, putA_into, putA_no, execA, opv, opvs, ofConst, ofScalar, pureR, newR, skipR, builtinA, Env.get_put, binA, arith, Nat.reduceEqDiff, Nat.reduceAdd, reduceIte, bind2, Heap.bump0, isConst, beq_self_eq_true, Bool.false_eq_true, Bool.or_true, Bool.or_false, Bool.not_true, Bool.not_false, undefA, Option.map_some, and_self, bTF, bFT, e0, e7, w2]
    refine CallK.into (r9) (by simp [es, Env.sz_put]) ?_
    simp (maxSteps := 2000000) (disch := first | assumption | simp [es, Env.sz_put]) only [WO_nil, List.getElem?_cons_zero, List.getElem?_cons_succ, WO_cons, WD_nil, WD_cons, List.nil_append, List.append_nil, List.cons_append, sel, nthO, wantedA_free, wantedA_by, putA_into, putA_no, execA, opv, opvs, ofConst, ofScalar, pureR, newR, skipR, builtinA, Env.get_put, binA, arith, Nat.reduceEqDiff, Nat.reduceAdd, reduceIte, bind2, Heap.bump0, isConst, beq_self_eq_true, Bool.false_eq_true, Bool.or_true, Bool.or_false, Bool.not_true, Bool.not_false, undefA, Option.map_some, and_self, bTF, bFT]
    refine CallK.into (awake_in _) (by simp [es, Env.sz_put]) ?_
    simp (maxSteps := 2000000) (disch := first | assumption | simp [es, Env.sz_put]) only [WO_nil, List.getElem?_cons_zero, List.getElem?_cons_succ, WO_cons, WD_nil, WD_cons, List.nil_append, List.append_nil, List.cons_append, sel, nthO, wantedA_free, wantedA_by, putA_into, putA_no, execA, opv, opvs, ofConst, ofScalar, pureR, newR, skipR, builtinA, Env.get_put, binA, arith, Nat.reduceEqDiff, Nat.reduceAdd, reduceIte, bind2, Heap.bump0, isConst, beq_self_eq_true, Bool.false_eq_true, Bool.or_true, Bool.or_false, Bool.not_true, Bool.not_false, undefA, Option.map_some, and_self, bTF, bFT]
    subst hK; clear hall; try simp only [Then]
    refine W.ret ?_
    simp only [Then, BlockQ, LoopQ, EndsR, Nat.reduceEqDiff, reduceIte]
    refine ⟨_, rfl, ?_⟩
    simp only [oneOf, Env.get_put, Nat.reduceEqDiff, reduceIte]

end Go.Proofs.Ytmggkamdihgmiaa.AM
