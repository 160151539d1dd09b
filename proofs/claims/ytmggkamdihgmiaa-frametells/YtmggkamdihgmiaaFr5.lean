/-
  The frame laws, part 5: the document's own Build.
-/
import Derived.Test.YtmggkamdihgmiaaFr4
namespace Go.Proofs.Ytmggkamdihgmiaa.AM
open Go Go.Proofs
set_option linter.unusedVariables false
set_option linter.unusedSimpArgs false

set_option maxHeartbeats 2000000 in
theorem build2_runs {h : Heap} {a : AV} {ws : List Int} (ha : Holds h a ws) (hr : ∀ w, w ∈ ws → -9223372036854775808 ≤ w ∧ w < 9223372036854775808) : ∃ a' h', Kp h h' ∧ Own h.next h' a' (buildE ws).2 ∧ Runs Try.prog XA 9 [a] h (.ret (.tup [a', vi (buildE ws).1])) h' := by
  suffices hs : ∃ r h', Runs Try.prog XA 9 [a] h r h' ∧ ∃ a', r = .ret (.tup [a', vi (buildE ws).1]) ∧ Kp h h' ∧ Own h.next h' a' (buildE ws).2 by
    obtain ⟨r, h', h1, a', rfl, h3, h4⟩ := hs
    exact ⟨a', h', h3, h4, h1⟩
  refine Runs.ends rfl Try.func9 rfl ?_
  generalize hE : Env.init [a] Try.f9.ntmps = e
  have e0 : e.get 0 = a := by subst hE; rfl
  have es : e.sz = 93 := by subst hE; rfl
  clear hE
  have hla := ha.len
  have hsm := ha.small
  refine W.seqR 0 rfl fun K all hK hall => ?_
  simp (maxSteps := 2000000) (disch := first | assumption | simp [es, Env.sz_put]) only [WO_nil, List.getElem?_cons_zero, List.getElem?_cons_succ, WO_cons, WD_nil, WD_cons, List.nil_append, List.append_nil, List.cons_append, sel, nthO, wantedA_free, wantedA_by, putA_into, putA_no, execA, opv, opvs, ofConst, ofScalar, pureR, newR, skipR, builtinA, Env.get_put, binA, arith, Nat.reduceEqDiff, Nat.reduceAdd, reduceIte, bind2, Heap.bump0, isConst, beq_self_eq_true, Bool.false_eq_true, Bool.or_true, Bool.or_false, Bool.not_true, Bool.not_false, undefA, Option.map_some, and_self, bTF, bFT]
  subst hK; clear hall; try simp only [Then]
  refine W.seqR 0 rfl fun K all hK hall => ?_
  simp (maxSteps := 2000000) (disch := first | assumption | simp [es, Env.sz_put]) only [WO_nil, List.getElem?_cons_zero, List.getElem?_cons_succ, WO_cons, WD_nil, WD_cons, List.nil_append, List.append_nil, List.cons_append, sel, nthO, wantedA_free, wantedA_by, putA_into, putA_no, execA, opv, opvs, ofConst, ofScalar, pureR, newR, skipR, builtinA, Env.get_put, binA, arith, Nat.reduceEqDiff, Nat.reduceAdd, reduceIte, bind2, Heap.bump0, isConst, beq_self_eq_true, Bool.false_eq_true, Bool.or_true, Bool.or_false, Bool.not_true, Bool.not_false, undefA, Option.map_some, and_self, bTF, bFT]
  subst hK; clear hall; try simp only [Then]
  refine W.seqA ?_
  refine W.seqR 0 rfl fun K all hK hall => ?_
  simp (maxSteps := 2000000) (disch := first | assumption | simp [es, Env.sz_put]) only [WO_nil, List.getElem?_cons_zero, List.getElem?_cons_succ, WO_cons, WD_nil, WD_cons, List.nil_append, List.append_nil, List.cons_append, sel, nthO, wantedA_free, wantedA_by, putA_into, putA_no, execA, opv, opvs, ofConst, ofScalar, pureR, newR, skipR, builtinA, Env.get_put, binA, arith, Nat.reduceEqDiff, Nat.reduceAdd, reduceIte, bind2, Heap.bump0, isConst, beq_self_eq_true, Bool.false_eq_true, Bool.or_true, Bool.or_false, Bool.not_true, Bool.not_false, undefA, Option.map_some, and_self, bTF, bFT]
  subst hK; clear hall; try simp only [Then]
  refine W.seqM (fun o s => o = .norm ∧ s.heap = h ∧ s.env.sz = 93 ∧ s.env.get 0 = a ∧ s.env.get 4 = vi ws.sum ∧ ws.length ≤ 16 ∧ (∀ w, w ∈ ws → 1 ≤ w) ∨ o = .ret ∧ s.heap = h ∧ s.env.get 2 = .nils ∧ s.env.get 3 = vi 143 ∧ ¬ OkW ws) (W.blockT (W.whileT (fun m s => ∃ i : Nat, m = ws.length - i ∧ i ≤ ws.length ∧ s.heap = h ∧ s.env.sz = 93 ∧ s.env.get 0 = a ∧ s.env.get 4 = vi (ws.take i).sum ∧ s.env.get 5 = vi i ∧ i ≤ 16 ∧ (∀ w, w ∈ ws.take i → 1 ≤ w) ∧ (ws.take i).sum ≤ i * 256 ∧ 0 ≤ (ws.take i).sum) ?_ ws.length _ ⟨0, rfl, by omega, rfl, ?_, ?_, ?_, ?_, by omega, ?_, ?_, ?_⟩)) ?_
  case refine_2 => simp only [Env.sz_put, es]
  case refine_3 => simp only [Env.get_put, Nat.reduceEqDiff, reduceIte, e0]
  case refine_4 => simp only [Env.get_put, Nat.reduceEqDiff, reduceIte]; rfl
  case refine_5 => simp only [Env.get_put, Nat.reduceEqDiff, reduceIte]; rfl
  case refine_6 => intro w hw; simp at hw
  case refine_7 => simp
  case refine_8 => simp
  case refine_1 =>
    clear e0 es e
    rintro m ⟨e, h1⟩ ⟨i, rfl, hi, hh, es, e0, e4, e5, hi16, hp, hs, hs0⟩
    dsimp only at hh es e0 e4 e5
    subst hh
    refine W.seqA ?_
    refine W.seqR 0 rfl fun K all hK hall => ?_
    simp (maxSteps := 2000000) (disch := first | assumption | simp [es, Env.sz_put]) only [WO_nil, List.getElem?_cons_zero, List.getElem?_cons_succ, WO_cons, WD_nil, WD_cons, List.nil_append, List.append_nil, List.cons_append, sel, nthO, wantedA_free, wantedA_by, putA_into, putA_no, execA, opv, opvs, ofConst, ofScalar, pureR, newR, skipR, builtinA, Env.get_put, binA, arith, Nat.reduceEqDiff, Nat.reduceAdd, reduceIte, bind2, Heap.bump0, isConst, beq_self_eq_true, Bool.false_eq_true, Bool.or_true, Bool.or_false, Bool.not_true, Bool.not_false, undefA, Option.map_some, and_self, bTF, bFT, e0, e5, hla]
    subst hK; clear hall; try simp only [Then]
    by_cases c2 : i < ws.length
    · have c2' : (i : Int) < (ws.length : Int) := by omega
      obtain ⟨b1, o1, q1, q2⟩ := ha.addr (i := (i : Int)) (by omega) c2'
      have q2 : loadA Try.prog h1 3 (.ptr b1 o1) = some (vi (getI ws i)) := by rw [q2, getI_of c2]; rfl
      have hri := hr _ (getI_mem c2)
      have hts := sum_take_succ ws i c2
      refine W.seqT (W.condT (by simp only [opv, ofConst, ofScalar, Env.get_put, Nat.reduceEqDiff, reduceIte, c2', decide_true]) ?_)
      refine W.skip ?_
      simp only [Then]
      refine W.seqT (W.blockT ?_)
      refine W.seqA ?_
      refine W.seqR 0 rfl fun K all hK hall => ?_
      have g2 : (all[2]?).bind (·.dst) = some 18 := by subst hall; rfl
      have g9 : (all[9]?).bind (·.dst) = some 25 := by subst hall; rfl
      by_cases c3 : (i : Int) ≥ 16
      · have n3 : decide ((i : Int) ≥ 16) = true := by simp [c3]
        simp (maxSteps := 2000000) (disch := first | assumption | simp [es, Env.sz_put]) only [WO_nil, List.getElem?_cons_zero, List.getElem?_cons_succ, WO_cons, WD_nil, WD_cons, List.nil_append, List.append_nil, List.cons_append, sel, nthO, wantedA_free, wantedA_by, putA_into, putA_no, execA, opv, opvs, ofConst, ofScalar, pureR, newR, skipR, builtinA, Env.get_put, binA, arith, Nat.reduceEqDiff, Nat.reduceAdd, reduceIte, bind2, Heap.bump0, isConst, beq_self_eq_true, Bool.false_eq_true, Bool.or_true, Bool.or_false, Bool.not_true, Bool.not_false, undefA, Option.map_some, and_self, bTF, bFT, e5, n3]
        subst hK; clear hall; try simp only [Then]
        refine W.seqT (W.condT (by simp only [opv, ofConst, ofScalar, Env.get_put, Nat.reduceEqDiff, reduceIte, n3]) ?_)
        refine W.seqR 0 rfl fun K all hK hall => ?_
        simp (maxSteps := 2000000) (disch := first | assumption | simp [es, Env.sz_put]) only [WO_nil, List.getElem?_cons_zero, List.getElem?_cons_succ, WO_cons, WD_nil, WD_cons, List.nil_append, List.append_nil, List.cons_append, sel, nthO, wantedA_free, wantedA_by, putA_into, putA_no, execA, opv, opvs, ofConst, ofScalar, pureR, newR, skipR, builtinA, Env.get_put, binA, arith, Nat.reduceEqDiff, Nat.reduceAdd, reduceIte, bind2, Heap.bump0, isConst, beq_self_eq_true, Bool.false_eq_true, Bool.or_true, Bool.or_false, Bool.not_true, Bool.not_false, undefA, Option.map_some, and_self, bTF, bFT]
        subst hK; clear hall; try simp only [Then]
        refine W.ret ?_
        simp only [Then, BlockQ, LoopQ, EndsR, Nat.reduceEqDiff, reduceIte]
        refine .inr ⟨trivial, trivial, ?_, ?_, ?_⟩
        · simp only [Env.get_put, Nat.reduceEqDiff, reduceIte]
        · simp only [Env.get_put, Nat.reduceEqDiff, reduceIte]
        · rintro ⟨k1, k2, k3, k4⟩
          omega
      have n3 : decide ((i : Int) ≥ 16) = false := by simp [c3]
      by_cases c4 : getI ws i < 1
      · have n4 : decide (getI ws i < 1) = true := by simp [c4]
        simp (maxSteps := 2000000) (disch := first | assumption | simp [es, Env.sz_put]) only [WO_nil, List.getElem?_cons_zero, List.getElem?_cons_succ, WO_cons, WD_nil, WD_cons, List.nil_append, List.append_nil, List.cons_append, sel, nthO, wantedA_free, wantedA_by, putA_into, putA_no, execA, opv, opvs, ofConst, ofScalar, pureR, newR, skipR, builtinA, Env.get_put, binA, arith, Nat.reduceEqDiff, Nat.reduceAdd, reduceIte, bind2, Heap.bump0, isConst, beq_self_eq_true, Bool.false_eq_true, Bool.or_true, Bool.or_false, Bool.not_true, Bool.not_false, undefA, Option.map_some, and_self, bTF, bFT, e0, e5, n3, n4, q1, q2]
        subst hK; clear hall; try simp only [Then]
        refine W.seqT (W.condT (by simp only [opv, ofConst, ofScalar, Env.get_put, Nat.reduceEqDiff, reduceIte, n4]) ?_)
        refine W.seqR 0 rfl fun K all hK hall => ?_
        simp (maxSteps := 2000000) (disch := first | assumption | simp [es, Env.sz_put]) only [WO_nil, List.getElem?_cons_zero, List.getElem?_cons_succ, WO_cons, WD_nil, WD_cons, List.nil_append, List.append_nil, List.cons_append, sel, nthO, wantedA_free, wantedA_by, putA_into, putA_no, execA, opv, opvs, ofConst, ofScalar, pureR, newR, skipR, builtinA, Env.get_put, binA, arith, Nat.reduceEqDiff, Nat.reduceAdd, reduceIte, bind2, Heap.bump0, isConst, beq_self_eq_true, Bool.false_eq_true, Bool.or_true, Bool.or_false, Bool.not_true, Bool.not_false, undefA, Option.map_some, and_self, bTF, bFT]
        subst hK; clear hall; try simp only [Then]
        refine W.ret ?_
        simp only [Then, BlockQ, LoopQ, EndsR, Nat.reduceEqDiff, reduceIte]
        refine .inr ⟨trivial, trivial, ?_, ?_, ?_⟩
        · simp only [Env.get_put, Nat.reduceEqDiff, reduceIte]
        · simp only [Env.get_put, Nat.reduceEqDiff, reduceIte]
        · rintro ⟨k1, k2, k3, k4⟩
          have := k3 _ (getI_mem c2)
          omega
      have n4 : decide (getI ws i < 1) = false := by simp [c4]
      simp (maxSteps := 2000000) (disch := first | assumption | simp [es, Env.sz_put]) only [WO_nil, List.getElem?_cons_zero, List.getElem?_cons_succ, WO_cons, WD_nil, WD_cons, List.nil_append, List.append_nil, List.cons_append, sel, nthO, wantedA_free, wantedA_by, putA_into, putA_no, execA, opv, opvs, ofConst, ofScalar, pureR, newR, skipR, builtinA, Env.get_put, binA, arith, Nat.reduceEqDiff, Nat.reduceAdd, reduceIte, bind2, Heap.bump0, isConst, beq_self_eq_true, Bool.false_eq_true, Bool.or_true, Bool.or_false, Bool.not_true, Bool.not_false, undefA, Option.map_some, and_self, bTF, bFT, e0, e5, n3, n4, q1, q2]
      subst hK; clear hall; try simp only [Then]
      by_cases c5 : getI ws i > 256
      · refine W.seqT (W.condT (by simp only [opv, ofConst, ofScalar, Env.get_put, Nat.reduceEqDiff, reduceIte, c5, decide_true]) ?_)
        refine W.seqR 0 rfl fun K all hK hall => ?_
        simp (maxSteps := 2000000) (disch := first | assumption | simp [es, Env.sz_put]) only [WO_nil, List.getElem?_cons_zero, List.getElem?_cons_succ, WO_cons, WD_nil, WD_cons, List.nil_append, List.append_nil, List.cons_append, sel, nthO, wantedA_free, wantedA_by, putA_into, putA_no, execA, opv, opvs, ofConst, ofScalar, pureR, newR, skipR, builtinA, Env.get_put, binA, arith, Nat.reduceEqDiff, Nat.reduceAdd, reduceIte, bind2, Heap.bump0, isConst, beq_self_eq_true, Bool.false_eq_true, Bool.or_true, Bool.or_false, Bool.not_true, Bool.not_false, undefA, Option.map_some, and_self, bTF, bFT]
        subst hK; clear hall; try simp only [Then]
        refine W.ret ?_
        simp only [Then, BlockQ, LoopQ, EndsR, Nat.reduceEqDiff, reduceIte]
        refine .inr ⟨trivial, trivial, ?_, ?_, ?_⟩
        · simp only [Env.get_put, Nat.reduceEqDiff, reduceIte]
        · simp only [Env.get_put, Nat.reduceEqDiff, reduceIte]
        · rintro ⟨k1, k2, k3, k4⟩
          have := sum_take_le k3 (i + 1)
          omega
      refine W.seqT (W.condF (by simp only [opv, ofConst, ofScalar, Env.get_put, Nat.reduceEqDiff, reduceIte, c5, decide_false]) ?_)
      refine W.skip ?_
      simp only [Then]
      have ew2 : IntKind.i64.wrap ((ws.take i).sum + getI ws i) = (ws.take (i + 1)).sum := by rw [wrap_small (by omega) (by omega), hts]
      refine W.reg 0 rfl fun K all hK hall => ?_
      simp (maxSteps := 2000000) (disch := first | assumption | simp [es, Env.sz_put]) only [WO_nil, List.getElem?_cons_zero, List.getElem?_cons_succ, WO_cons, WD_nil, WD_cons, List.nil_append, List.append_nil, List.cons_append, sel, nthO, wantedA_free, wantedA_by, putA_into, putA_no, execA, opv, opvs, ofConst, ofScalar, pureR, newR, skipR, builtinA, Env.get_put, binA, arith, Nat.reduceEqDiff, Nat.reduceAdd, reduceIte, bind2, Heap.bump0, isConst, beq_self_eq_true, Bool.false_eq_true, Bool.or_true, Bool.or_false, Bool.not_true, Bool.not_false, undefA, Option.map_some, and_self, bTF, bFT, e0, e4, e5, q1, q2, ew2]
      subst hK; clear hall; try simp only [Then]
      simp only [Then, BlockQ, LoopQ, EndsR, Nat.reduceEqDiff, reduceIte]
      refine W.reg 0 rfl fun K all hK hall => ?_
      simp (maxSteps := 2000000) (disch := first | assumption | simp [es, Env.sz_put]) only [WO_nil, List.getElem?_cons_zero, List.getElem?_cons_succ, WO_cons, WD_nil, WD_cons, List.nil_append, List.append_nil, List.cons_append, sel, nthO, wantedA_free, wantedA_by, putA_into, putA_no, execA, opv, opvs, ofConst, ofScalar, pureR, newR, skipR, builtinA, Env.get_put, binA, arith, Nat.reduceEqDiff, Nat.reduceAdd, reduceIte, bind2, Heap.bump0, isConst, beq_self_eq_true, Bool.false_eq_true, Bool.or_true, Bool.or_false, Bool.not_true, Bool.not_false, undefA, Option.map_some, and_self, bTF, bFT, e5]
      subst hK; clear hall; try simp only [Then]
      simp only [Then, BlockQ, LoopQ, EndsR, Nat.reduceEqDiff, reduceIte]
      refine ⟨ws.length - (i + 1), by omega, i + 1, rfl, by omega, trivial, ?_, ?_, ?_, ?_, by omega, ?_, ?_, ?_⟩
      · simp only [Env.sz_put, es]
      · simp only [Env.get_put, Nat.reduceEqDiff, reduceIte, e0]
      · simp only [Env.get_put, Nat.reduceEqDiff, reduceIte]
      · simp only [Env.get_put, Nat.reduceEqDiff, reduceIte]
        rw [wrap_small (by omega) (by omega)]; simp
      · intro w hw
        rw [List.take_succ_eq_append_getElem c2, List.mem_append] at hw
        rcases hw with hw | hw
        · exact hp w hw
        · simp only [List.mem_singleton] at hw; subst hw; rw [getI_of c2] at c4; omega
      · omega
      · omega
    · have c2' : ¬ (i : Int) < (ws.length : Int) := by omega
      have ht : ws.take i = ws := List.take_of_length_le (by omega)
      rw [ht] at hp hs e4
      refine W.seqT (W.condF (by simp only [opv, ofConst, ofScalar, Env.get_put, Nat.reduceEqDiff, reduceIte, c2', decide_false]) ?_)
      refine W.exit ?_
      simp only [Then, BlockQ, LoopQ, EndsR, Nat.reduceEqDiff, reduceIte]
      refine .inl ⟨trivial, trivial, ?_, ?_, ?_, by omega, hp⟩
      · simp only [Env.sz_put, es]
      · simp only [Env.get_put, Nat.reduceEqDiff, reduceIte, e0]
      · simp only [Env.get_put, Nat.reduceEqDiff, reduceIte, e4]
  case refine_9 =>
    clear e0 es e
    rintro o ⟨e, h1⟩ (⟨rfl, hh, es, e0, e4, h16, hp⟩ | ⟨rfl, hh, e2, e3, hno⟩)
    · dsimp only at hh es e0 e4
      subst hh
      simp only [Then]
      refine W.seqA ?_
      refine W.seqR 0 rfl fun K all hK hall => ?_
      have g2 : (all[2]?).bind (·.dst) = some 40 := by subst hall; rfl
      by_cases c1 : ws.sum < 1
      · have n1 : decide (ws.sum < 1) = true := by simp [c1]
        simp (maxSteps := 2000000) (disch := first | assumption | simp [es, Env.sz_put]) only [WO_nil, List.getElem?_cons_zero, List.getElem?_cons_succ, WO_cons, WD_nil, WD_cons, List.nil_append, List.append_nil, List.cons_append, sel, nthO, wantedA_free, wantedA_by, putA_into, putA_no, execA, opv, opvs, ofConst, ofScalar, pureR, newR, skipR, builtinA, Env.get_put, binA, arith, Nat.reduceEqDiff, Nat.reduceAdd, reduceIte, bind2, Heap.bump0, isConst, beq_self_eq_true, Bool.false_eq_true, Bool.or_true, Bool.or_false, Bool.not_true, Bool.not_false, undefA, Option.map_some, and_self, bTF, bFT, e4, n1]
        subst hK; clear hall; try simp only [Then]
        refine W.seqT (W.condT (by simp only [opv, ofConst, ofScalar, Env.get_put, Nat.reduceEqDiff, reduceIte, n1]) ?_)
        refine W.seqR 0 rfl fun K all hK hall => ?_
        simp (maxSteps := 2000000) (disch := first | assumption | simp [es, Env.sz_put]) only [WO_nil, List.getElem?_cons_zero, List.getElem?_cons_succ, WO_cons, WD_nil, WD_cons, List.nil_append, List.append_nil, List.cons_append, sel, nthO, wantedA_free, wantedA_by, putA_into, putA_no, execA, opv, opvs, ofConst, ofScalar, pureR, newR, skipR, builtinA, Env.get_put, binA, arith, Nat.reduceEqDiff, Nat.reduceAdd, reduceIte, bind2, Heap.bump0, isConst, beq_self_eq_true, Bool.false_eq_true, Bool.or_true, Bool.or_false, Bool.not_true, Bool.not_false, undefA, Option.map_some, and_self, bTF, bFT]
        subst hK; clear hall; try simp only [Then]
        refine W.ret ?_
        simp only [Then, BlockQ, LoopQ, EndsR, Nat.reduceEqDiff, reduceIte]
        have hno : ¬ OkW ws := by
          rintro ⟨k1, k2, k3, k4⟩
          have hl := List.length_pos_iff.mpr k1
          have h1 := k3 _ (getI_mem hl)
          have h2 := sum_take_le k3 1
          have h3 := sum_take_succ ws 0 hl
          simp at h3 h2
          omega
        refine ⟨_, rfl, .nils, ?_, Kp.refl h1, ?_⟩
        · simp only [oneOf, Env.get_put, Nat.reduceEqDiff, reduceIte]
          simp only [buildE, if_neg hno]
        · simp only [buildE, if_neg hno]; exact Own.nil _ _
      have n1 : decide (ws.sum < 1) = false := by simp [c1]
      simp (maxSteps := 2000000) (disch := first | assumption | simp [es, Env.sz_put]) only [WO_nil, List.getElem?_cons_zero, List.getElem?_cons_succ, WO_cons, WD_nil, WD_cons, List.nil_append, List.append_nil, List.cons_append, sel, nthO, wantedA_free, wantedA_by, putA_into, putA_no, execA, opv, opvs, ofConst, ofScalar, pureR, newR, skipR, builtinA, Env.get_put, binA, arith, Nat.reduceEqDiff, Nat.reduceAdd, reduceIte, bind2, Heap.bump0, isConst, beq_self_eq_true, Bool.false_eq_true, Bool.or_true, Bool.or_false, Bool.not_true, Bool.not_false, undefA, Option.map_some, and_self, bTF, bFT, e4, n1]
      subst hK; clear hall; try simp only [Then]
      by_cases c2 : ws.sum > 256
      · refine W.seqT (W.condT (by simp only [opv, ofConst, ofScalar, Env.get_put, Nat.reduceEqDiff, reduceIte, c2, decide_true]) ?_)
        refine W.seqR 0 rfl fun K all hK hall => ?_
        simp (maxSteps := 2000000) (disch := first | assumption | simp [es, Env.sz_put]) only [WO_nil, List.getElem?_cons_zero, List.getElem?_cons_succ, WO_cons, WD_nil, WD_cons, List.nil_append, List.append_nil, List.cons_append, sel, nthO, wantedA_free, wantedA_by, putA_into, putA_no, execA, opv, opvs, ofConst, ofScalar, pureR, newR, skipR, builtinA, Env.get_put, binA, arith, Nat.reduceEqDiff, Nat.reduceAdd, reduceIte, bind2, Heap.bump0, isConst, beq_self_eq_true, Bool.false_eq_true, Bool.or_true, Bool.or_false, Bool.not_true, Bool.not_false, undefA, Option.map_some, and_self, bTF, bFT]
        subst hK; clear hall; try simp only [Then]
        refine W.ret ?_
        simp only [Then, BlockQ, LoopQ, EndsR, Nat.reduceEqDiff, reduceIte]
        have hno : ¬ OkW ws := fun q => by have := q.2.2.2; omega
        refine ⟨_, rfl, .nils, ?_, Kp.refl h1, ?_⟩
        · simp only [oneOf, Env.get_put, Nat.reduceEqDiff, reduceIte]
          simp only [buildE, if_neg hno]
        · simp only [buildE, if_neg hno]; exact Own.nil _ _
      refine W.seqT (W.condF (by simp only [opv, ofConst, ofScalar, Env.get_put, Nat.reduceEqDiff, reduceIte, c2, decide_false]) ?_)
      refine W.skip ?_
      simp only [Then]
      have c0 : ¬ ws = [] := fun q => by subst q; simp at c1
      have hs : ws.sum ≤ 256 := by omega
      have hok : OkW ws := ⟨c0, by omega, hp, hs⟩
      have hlen : 0 < ws.length := List.length_pos_iff.mpr c0
      have hs0 : 0 ≤ ws.sum := by omega
      have hw256 : Within 256 ws := fun i => by
        by_cases hi : i < ws.length
        · have h1 := hp _ (getI_mem hi)
          have h2 := sum_take_le hp (i + 1)
          have h3 := sum_take_succ ws i hi
          have h4 : 0 ≤ (ws.take i).sum := by
            have := sum_take_le (ws := ws.take i) (fun w hw => hp w (List.mem_of_mem_take hw)) 0
            simpa using this
          omega
        · rw [getI_out (by omega)]; omega
      refine W.seqR 4 rfl fun K all hK hall => ?_
      have g1 : makeSliceA Try.prog (h1.bump 4) (h1.next + 1 + 1) 22 (vi ws.length) (vi ws.length) = _ := make_ints _ _ _ hsm
      generalize hH : newA (h1.bump 4) (h1.next + 1 + 1) (ints (List.replicate ws.length 0)) = H2 at g1
      simp (maxSteps := 2000000) (disch := first | assumption | simp [es, Env.sz_put]) only [WO_nil, List.getElem?_cons_zero, List.getElem?_cons_succ, WO_cons, WD_nil, WD_cons, List.nil_append, List.append_nil, List.cons_append, sel, nthO, wantedA_free, wantedA_by, putA_into, putA_no, execA, opv, opvs, ofConst, ofScalar, pureR, newR, skipR, builtinA, Env.get_put, binA, arith, Nat.reduceEqDiff, Nat.reduceAdd, reduceIte, bind2, Heap.bump0, isConst, beq_self_eq_true, Bool.false_eq_true, Bool.or_true, Bool.or_false, Bool.not_true, Bool.not_false, undefA, Option.map_some, and_self, bTF, bFT, e0, hla, g1]
      subst hK; clear hall; try simp only [Then]
      have hnx : H2.next = h1.next + 4 := by subst hH; rfl
      have hB : H2.get (h1.next + 1 + 1) = some (.cells (ints (List.replicate ws.length 0)) (.rw true) []) := by
        subst hH; unfold newA; rw [Heap.get_put, if_pos rfl]
      have hK2 : Kp h1 H2 := by
        subst hH
        exact (Kp.bump h1 4).newA (by omega) _ _
      clear g1 hH
      generalize hBn : h1.next + 1 + 1 = B at *
      have hB1 : h1.next ≤ B := by omega
      have hB2 : B < H2.next := by omega
      have hlo : h1.next ≤ H2.next := by omega
      clear hBn hnx
      refine W.seqR 0 rfl fun K all hK hall => ?_
      simp (maxSteps := 2000000) (disch := first | assumption | simp [es, Env.sz_put]) only [WO_nil, List.getElem?_cons_zero, List.getElem?_cons_succ, WO_cons, WD_nil, WD_cons, List.nil_append, List.append_nil, List.cons_append, sel, nthO, wantedA_free, wantedA_by, putA_into, putA_no, execA, opv, opvs, ofConst, ofScalar, pureR, newR, skipR, builtinA, Env.get_put, binA, arith, Nat.reduceEqDiff, Nat.reduceAdd, reduceIte, bind2, Heap.bump0, isConst, beq_self_eq_true, Bool.false_eq_true, Bool.or_true, Bool.or_false, Bool.not_true, Bool.not_false, undefA, Option.map_some, and_self, bTF, bFT]
      subst hK; clear hall; try simp only [Then]
      refine W.seqLoop (fun m s => ∃ (k : Nat) (c : AV), m = ws.sum.toNat - k ∧ k ≤ ws.sum.toNat ∧ Kp h1 s.heap ∧ H2.next ≤ s.heap.next ∧ Own H2.next s.heap c (ticksS ws.sum ws k).1 ∧ s.heap.get B = some (.cells (ints (ticksS ws.sum ws k).2) (.rw true) []) ∧ s.env.sz = 93 ∧ s.env.get 0 = a ∧ s.env.get 4 = vi ws.sum ∧ s.env.get 6 = .slice B 0 ws.length ws.length true 1 ∧ s.env.get 7 = c) ws.sum.toNat ⟨0, .nils, rfl, by omega, hK2, Nat.le_refl _, Own.nil _ _, hB, ?_, ?_, ?_, ?_, ?_⟩ ?_
      · simp only [Env.sz_put, es]
      · simp only [Env.get_put, Nat.reduceEqDiff, reduceIte, e0]
      · simp only [Env.get_put, Nat.reduceEqDiff, reduceIte, e4]
      · simp only [Env.get_put, Nat.reduceEqDiff, reduceIte]
      · simp only [Env.get_put, Nat.reduceEqDiff, reduceIte]
      · clear e0 e4 es e hB hK2
        rintro m ⟨e, h2⟩ ⟨k, c, rfl, hk, hK2, hN, hO, hB, es, e0, e4, e6, e7⟩
        dsimp only at hK2 hN hO hB es e0 e4 e6 e7
        have hlc := hO.holds.len
        rw [(ticksS_length ws.sum ws k).2] at hlc
        refine W.seqA ?_
        refine W.seqR 0 rfl fun K all hK hall => ?_
        simp (maxSteps := 2000000) (disch := first | assumption | simp [es, Env.sz_put]) only [WO_nil, List.getElem?_cons_zero, List.getElem?_cons_succ, WO_cons, WD_nil, WD_cons, List.nil_append, List.append_nil, List.cons_append, sel, nthO, wantedA_free, wantedA_by, putA_into, putA_no, execA, opv, opvs, ofConst, ofScalar, pureR, newR, skipR, builtinA, Env.get_put, binA, arith, Nat.reduceEqDiff, Nat.reduceAdd, reduceIte, bind2, Heap.bump0, isConst, beq_self_eq_true, Bool.false_eq_true, Bool.or_true, Bool.or_false, Bool.not_true, Bool.not_false, undefA, Option.map_some, and_self, bTF, bFT, e4, e7, hlc]
        subst hK; clear hall; try simp only [Then]
        by_cases c3 : (k : Int) < ws.sum
        · have hol := (ticksS_length ws.sum ws k).1
          have how := ticksS_within (ws := ws) ⟨hs0, hs⟩ hw256 k
          refine W.seqT (W.condT (by simp only [opv, ofConst, ofScalar, Env.get_put, Nat.reduceEqDiff, reduceIte, c3, decide_true]) ?_)
          refine W.skip ?_
          simp only [Then]
          refine W.blockT ?_
          refine W.seqR 0 rfl fun K all hK hall => ?_
          simp (maxSteps := 2000000) (disch := first | assumption | simp [es, Env.sz_put]) only [WO_nil, List.getElem?_cons_zero, List.getElem?_cons_succ, WO_cons, WD_nil, WD_cons, List.nil_append, List.append_nil, List.cons_append, sel, nthO, wantedA_free, wantedA_by, putA_into, putA_no, execA, opv, opvs, ofConst, ofScalar, pureR, newR, skipR, builtinA, Env.get_put, binA, arith, Nat.reduceEqDiff, Nat.reduceAdd, reduceIte, bind2, Heap.bump0, isConst, beq_self_eq_true, Bool.false_eq_true, Bool.or_true, Bool.or_false, Bool.not_true, Bool.not_false, undefA, Option.map_some, and_self, bTF, bFT]
          subst hK; clear hall; try simp only [Then]
          refine W.seqA ?_
          refine W.seqR 0 rfl fun K all hK hall => ?_
          simp (maxSteps := 2000000) (disch := first | assumption | simp [es, Env.sz_put]) only [WO_nil, List.getElem?_cons_zero, List.getElem?_cons_succ, WO_cons, WD_nil, WD_cons, List.nil_append, List.append_nil, List.cons_append, sel, nthO, wantedA_free, wantedA_by, putA_into, putA_no, execA, opv, opvs, ofConst, ofScalar, pureR, newR, skipR, builtinA, Env.get_put, binA, arith, Nat.reduceEqDiff, Nat.reduceAdd, reduceIte, bind2, Heap.bump0, isConst, beq_self_eq_true, Bool.false_eq_true, Bool.or_true, Bool.or_false, Bool.not_true, Bool.not_false, undefA, Option.map_some, and_self, bTF, bFT]
          subst hK; clear hall; try simp only [Then]
          generalize hoG : (ticksS ws.sum ws k).2 = o at *
          have hbo : (addO o ws).length = ws.length := addO_length hol
          refine W.seqLoop (fun m s => ∃ (i : Nat) (o' : List Int), m = ws.length - i ∧ i ≤ ws.length ∧ o'.length = ws.length ∧ (∀ j, getI o' j = getI o j + if j < i then getI ws j else 0) ∧ Kp h1 s.heap ∧ s.heap.next = h2.next ∧ Own H2.next s.heap c (ticksS ws.sum ws k).1 ∧ s.heap.get B = some (.cells (ints o') (.rw true) []) ∧ s.env.sz = 93 ∧ s.env.get 0 = a ∧ s.env.get 4 = vi ws.sum ∧ s.env.get 6 = .slice B 0 ws.length ws.length true 1 ∧ s.env.get 7 = c ∧ s.env.get 8 = vi (bestF (addO o ws) i) ∧ s.env.get 9 = vi i) ws.length ⟨0, o, rfl, by omega, hol, by simp, hK2, rfl, hO, hB, ?_, ?_, ?_, ?_, ?_, ?_, ?_⟩ ?_
          · simp only [Env.sz_put, es]
          · simp only [Env.get_put, Nat.reduceEqDiff, reduceIte, e0]
          · simp only [Env.get_put, Nat.reduceEqDiff, reduceIte, e4]
          · simp only [Env.get_put, Nat.reduceEqDiff, reduceIte, e6]
          · simp only [Env.get_put, Nat.reduceEqDiff, reduceIte, e7]
          · simp only [Env.get_put, Nat.reduceEqDiff, reduceIte]; rfl
          · simp only [Env.get_put, Nat.reduceEqDiff, reduceIte]; rfl
          · clear e0 e4 e6 e7 es e hB hK2 hO
            rintro m ⟨e, h3⟩ ⟨i, o', rfl, hi, hol', hoj, hK2, hN3, hO, hB, es, e0, e4, e6, e7, e8, e9⟩
            dsimp only at hK2 hN3 hO hB es e0 e4 e6 e7 e8 e9
            have ha2 := ha.ext hK2
            refine W.seqA ?_
            refine W.seqR 0 rfl fun K all hK hall => ?_
            simp (maxSteps := 2000000) (disch := first | assumption | simp [es, Env.sz_put]) only [WO_nil, List.getElem?_cons_zero, List.getElem?_cons_succ, WO_cons, WD_nil, WD_cons, List.nil_append, List.append_nil, List.cons_append, sel, nthO, wantedA_free, wantedA_by, putA_into, putA_no, execA, opv, opvs, ofConst, ofScalar, pureR, newR, skipR, builtinA, Env.get_put, binA, arith, Nat.reduceEqDiff, Nat.reduceAdd, reduceIte, bind2, Heap.bump0, isConst, beq_self_eq_true, Bool.false_eq_true, Bool.or_true, Bool.or_false, Bool.not_true, Bool.not_false, undefA, Option.map_some, and_self, bTF, bFT, e0, e9, hla]
            subst hK; clear hall; try simp only [Then]
            by_cases c4 : i < ws.length
            · have c4' : (i : Int) < (ws.length : Int) := by omega
              obtain ⟨b1, o1, q1, q2⟩ := ha2.addr (i := (i : Int)) (by omega) c4'
              have q2 : loadA Try.prog h3 3 (.ptr b1 o1) = some (vi (getI ws i)) := by rw [q2, getI_of c4]; rfl
              have q4 := addr_in B ws.length c4 true ws.length
              have q5 := load_in hB (i := i) (by omega)
              have hb1 := how i
              have hb2 := hw256 i
              have hgi : getI o' i = getI o i := by rw [hoj]; simp
              have q6 := store_in hB (i := i) (by omega) (getI o' i + getI ws i)
              have ew : IntKind.i64.wrap (getI o' i + getI ws i) = getI o' i + getI ws i := wrap_small (by omega) (by omega)
              generalize hH4 : h3.put B (some (.cells (ints (o'.set i (getI o' i + getI ws i))) (.rw true) [])) = h4 at q6
              have hB4 : h4.get B = some (.cells (ints (o'.set i (getI o' i + getI ws i))) (.rw true) []) := by subst hH4; rw [Heap.get_put, if_pos rfl]
              have hK4 : Kp h1 h4 := by subst hH4; exact hK2.put hB1 _
              have hO4 : Own H2.next h4 c (ticksS ws.sum ws k).1 := by subst hH4; exact hO.put_low hB2 _
              have hN4 : h4.next = h2.next := by subst hH4; exact hN3
              have hbl : bestF (addO o ws) i ≤ i := by
                by_cases hz : i = 0
                · subst hz; simp only [bestF]; omega
                · have := bestF_lt (addO o ws) i (by omega); omega
              generalize hoS : o'.set i (getI o' i + getI ws i) = o2 at *
              have hol2 : o2.length = ws.length := by rw [← hoS]; simp [hol']
              have hoj2 : ∀ j, getI o2 j = getI o j + if j < i + 1 then getI ws j else 0 := by
                intro j
                rw [← hoS, getI_set]
                by_cases hj : i = j
                · subst hj
                  rw [if_pos ⟨rfl, by omega⟩, hgi, if_pos (by omega)]
                · rw [if_neg (fun q => hj q.1), hoj]
                  by_cases hj2 : j < i
                  · rw [if_pos hj2, if_pos (by omega)]
                  · rw [if_neg hj2, if_neg (by omega)]
              have ga : ∀ j, j ≤ i → getI o2 j = getI (addO o ws) j := fun j hj => by
                rw [hoj2, addO_getI hol, if_pos (by omega)]
              have q7 := load_in hB4 (i := i) (by omega)
              have q8 := load_in hB4 (i := bestF (addO o ws) i) (by omega)
              have q9 := addr_in B ws.length (i := bestF (addO o ws) i) (by omega) true ws.length
              rw [ga _ (Nat.le_refl _)] at q7
              rw [ga _ hbl] at q8
              refine W.seqT (W.condT (by simp only [opv, ofConst, ofScalar, Env.get_put, Nat.reduceEqDiff, reduceIte, c4', decide_true]) ?_)
              refine W.skip ?_
              simp only [Then]
              refine W.seqT (W.blockT ?_)
              refine W.seqD 0 [0, 1, 2, 3, 4, 5, 6, 7, 8, 9, 10, 11, 12] (by kernel_rfl) (by kernel_rfl) (by kernel_rfl) rfl rfl fun K all hK hall => ?_
              simp (maxSteps := 2000000) (disch := first | assumption | simp [es, Env.sz_put]) only [WO_nil, List.getElem?_cons_zero, List.getElem?_cons_succ, WO_cons, WD_nil, WD_cons, List.nil_append, List.append_nil, List.cons_append, sel, nthO, wantedA_free, wantedA_by, putA_into, putA_no, execA, opv, opvs, ofConst, ofScalar, pureR, newR, skipR, builtinA, Env.get_put, binA, arith, Nat.reduceEqDiff, Nat.reduceAdd, reduceIte, bind2, Heap.bump0, isConst, beq_self_eq_true, Bool.false_eq_true, Bool.or_true, Bool.or_false, Bool.not_true, Bool.not_false, undefA, Option.map_some, and_self, bTF, bFT, e0, e6, e9, q1, q2, q4, q5, ew, q6]
              subst hK; clear hall; try simp only [Then]
              refine W.seqD 0 [0, 1, 2, 3, 4, 5, 6, 7, 8] (by kernel_rfl) (by kernel_rfl) (by kernel_rfl) rfl rfl fun K all hK hall => ?_
              simp (maxSteps := 2000000) (disch := first | assumption | simp [es, Env.sz_put]) only [WO_nil, List.getElem?_cons_zero, List.getElem?_cons_succ, WO_cons, WD_nil, WD_cons, List.nil_append, List.append_nil, List.cons_append, sel, nthO, wantedA_free, wantedA_by, putA_into, putA_no, execA, opv, opvs, ofConst, ofScalar, pureR, newR, skipR, builtinA, Env.get_put, binA, arith, Nat.reduceEqDiff, Nat.reduceAdd, reduceIte, bind2, Heap.bump0, isConst, beq_self_eq_true, Bool.false_eq_true, Bool.or_true, Bool.or_false, Bool.not_true, Bool.not_false, undefA, Option.map_some, and_self, bTF, bFT, e6, e8, e9, q4, q7, q8, q9]
              subst hK; clear hall; try simp only [Then]
              by_cases c5 : getI (addO o ws) i > getI (addO o ws) (bestF (addO o ws) i)
              · refine W.condT (by simp only [opv, ofConst, ofScalar, Env.get_put, Nat.reduceEqDiff, reduceIte, c5, decide_true]) ?_
                refine W.reg 0 rfl fun K all hK hall => ?_
                simp (maxSteps := 2000000) (disch := first | assumption | simp [es, Env.sz_put]) only [WO_nil, List.getElem?_cons_zero, List.getElem?_cons_succ, WO_cons, WD_nil, WD_cons, List.nil_append, List.append_nil, List.cons_append, sel, nthO, wantedA_free, wantedA_by, putA_into, putA_no, execA, opv, opvs, ofConst, ofScalar, pureR, newR, skipR, builtinA, Env.get_put, binA, arith, Nat.reduceEqDiff, Nat.reduceAdd, reduceIte, bind2, Heap.bump0, isConst, beq_self_eq_true, Bool.false_eq_true, Bool.or_true, Bool.or_false, Bool.not_true, Bool.not_false, undefA, Option.map_some, and_self, bTF, bFT, e9]
                subst hK; clear hall; try simp only [Then]
                simp only [Then, BlockQ, LoopQ, EndsR, Nat.reduceEqDiff, reduceIte]
                refine W.reg 0 rfl fun K all hK hall => ?_
                simp (maxSteps := 2000000) (disch := first | assumption | simp [es, Env.sz_put]) only [WO_nil, List.getElem?_cons_zero, List.getElem?_cons_succ, WO_cons, WD_nil, WD_cons, List.nil_append, List.append_nil, List.cons_append, sel, nthO, wantedA_free, wantedA_by, putA_into, putA_no, execA, opv, opvs, ofConst, ofScalar, pureR, newR, skipR, builtinA, Env.get_put, binA, arith, Nat.reduceEqDiff, Nat.reduceAdd, reduceIte, bind2, Heap.bump0, isConst, beq_self_eq_true, Bool.false_eq_true, Bool.or_true, Bool.or_false, Bool.not_true, Bool.not_false, undefA, Option.map_some, and_self, bTF, bFT, e9]
                subst hK; clear hall; try simp only [Then]
                simp only [Then, BlockQ, LoopQ, EndsR, Nat.reduceEqDiff, reduceIte]
                refine ⟨ws.length - (i + 1), by omega, i + 1, o2, rfl, by omega, hol2, hoj2, hK4, hN4, hO4, hB4, ?_, ?_, ?_, ?_, ?_, ?_, ?_⟩
                · simp only [Env.sz_put, es]
                · simp only [Env.get_put, Nat.reduceEqDiff, reduceIte, e0]
                · simp only [Env.get_put, Nat.reduceEqDiff, reduceIte, e4]
                · simp only [Env.get_put, Nat.reduceEqDiff, reduceIte, e6]
                · simp only [Env.get_put, Nat.reduceEqDiff, reduceIte, e7]
                · simp only [Env.get_put, Nat.reduceEqDiff, reduceIte, bestF, c5, if_true]
                · simp only [Env.get_put, Nat.reduceEqDiff, reduceIte]
                  rw [wrap_small (by omega) (by omega)]; simp
              · refine W.condF (by simp only [opv, ofConst, ofScalar, Env.get_put, Nat.reduceEqDiff, reduceIte, c5, decide_false]) ?_
                refine W.skip ?_
                simp only [Then, BlockQ, LoopQ, EndsR, Nat.reduceEqDiff, reduceIte]
                refine W.reg 0 rfl fun K all hK hall => ?_
                simp (maxSteps := 2000000) (disch := first | assumption | simp [es, Env.sz_put]) only [WO_nil, List.getElem?_cons_zero, List.getElem?_cons_succ, WO_cons, WD_nil, WD_cons, List.nil_append, List.append_nil, List.cons_append, sel, nthO, wantedA_free, wantedA_by, putA_into, putA_no, execA, opv, opvs, ofConst, ofScalar, pureR, newR, skipR, builtinA, Env.get_put, binA, arith, Nat.reduceEqDiff, Nat.reduceAdd, reduceIte, bind2, Heap.bump0, isConst, beq_self_eq_true, Bool.false_eq_true, Bool.or_true, Bool.or_false, Bool.not_true, Bool.not_false, undefA, Option.map_some, and_self, bTF, bFT, e9]
                subst hK; clear hall; try simp only [Then]
                simp only [Then, BlockQ, LoopQ, EndsR, Nat.reduceEqDiff, reduceIte]
                refine ⟨ws.length - (i + 1), by omega, i + 1, o2, rfl, by omega, hol2, hoj2, hK4, hN4, hO4, hB4, ?_, ?_, ?_, ?_, ?_, ?_, ?_⟩
                · simp only [Env.sz_put, es]
                · simp only [Env.get_put, Nat.reduceEqDiff, reduceIte, e0]
                · simp only [Env.get_put, Nat.reduceEqDiff, reduceIte, e4]
                · simp only [Env.get_put, Nat.reduceEqDiff, reduceIte, e6]
                · simp only [Env.get_put, Nat.reduceEqDiff, reduceIte, e7]
                · simp only [Env.get_put, Nat.reduceEqDiff, reduceIte, e8, bestF, c5, if_false]
                · simp only [Env.get_put, Nat.reduceEqDiff, reduceIte]
                  rw [wrap_small (by omega) (by omega)]; simp
            · have c4' : ¬ (i : Int) < (ws.length : Int) := by omega
              refine W.seqT (W.condF (by simp only [opv, ofConst, ofScalar, Env.get_put, Nat.reduceEqDiff, reduceIte, c4', decide_false]) ?_)
              refine W.exit ?_
              simp only [Then, BlockQ, LoopQ, EndsR, Nat.reduceEqDiff, reduceIte]
              have hoa : o' = addO o ws := by
                apply List.ext_getElem (by rw [hol', addO_length hol])
                intro j j1 j2
                rw [← getI_of j1, ← getI_of j2, hoj, addO_getI hol, if_pos (by omega)]
              clear hoj
              subst hoa
              have hin : i = ws.length := by omega
              subst hin
              have hbl := bestF_lt (addO o ws) ws.length hlen
              have q4 := addr_in B ws.length hbl true ws.length
              have q5 := load_in hB (i := bestF (addO o ws) ws.length) (by omega)
              have hg := how (bestF (addO o ws) ws.length)
              have hg2 := hw256 (bestF (addO o ws) ws.length)
              have hg3 := addO_getI hol (bestF (addO o ws) ws.length)
              have ew : IntKind.i64.wrap (getI (addO o ws) (bestF (addO o ws) ws.length) - ws.sum) = getI (addO o ws) (bestF (addO o ws) ws.length) - ws.sum := wrap_small (by omega) (by omega)
              have q6 := store_in hB (i := bestF (addO o ws) ws.length) (by omega) (getI (addO o ws) (bestF (addO o ws) ws.length) - ws.sum)
              generalize hH5 : h3.put B (some (.cells (ints ((addO o ws).set (bestF (addO o ws) ws.length) (getI (addO o ws) (bestF (addO o ws) ws.length) - ws.sum))) (.rw true) [])) = h5 at q6
              have hB5 : h5.get B = some (.cells (ints ((addO o ws).set (bestF (addO o ws) ws.length) (getI (addO o ws) (bestF (addO o ws) ws.length) - ws.sum))) (.rw true) []) := by subst hH5; rw [Heap.get_put, if_pos rfl]
              have hO5 : Own H2.next h5 c (ticksS ws.sum ws k).1 := by subst hH5; exact hO.put_low hB2 _
              have hK5 : Kp h1 h5 := by subst hH5; exact hK2.put hB1 _
              have hN5 : h5.next = h2.next := by subst hH5; exact hN3
              refine W.seqR 0 rfl fun K all hK hall => ?_
              simp (maxSteps := 2000000) (disch := first | assumption | simp [es, Env.sz_put]) only [WO_nil, List.getElem?_cons_zero, List.getElem?_cons_succ, WO_cons, WD_nil, WD_cons, List.nil_append, List.append_nil, List.cons_append, sel, nthO, wantedA_free, wantedA_by, putA_into, putA_no, execA, opv, opvs, ofConst, ofScalar, pureR, newR, skipR, builtinA, Env.get_put, binA, arith, Nat.reduceEqDiff, Nat.reduceAdd, reduceIte, bind2, Heap.bump0, isConst, beq_self_eq_true, Bool.false_eq_true, Bool.or_true, Bool.or_false, Bool.not_true, Bool.not_false, undefA, Option.map_some, and_self, bTF, bFT, e4, e6, e8, q4, q5, ew, q6]
              subst hK; clear hall; try simp only [Then]
              have hOl := (ticksS_length ws.sum ws k).2
              obtain ⟨c', h6, p1, p2, p3, p4⟩ := hO5.more (h0 := { h5 with next := H2.next }) ⟨by show H2.next ≤ h5.next; omega, fun _ _ => rfl⟩ (Nat.le_refl _) (by omega) (f1 := h5.next + 1 + 1) (f2 := h5.next + 1 + 1 + 1) (n := 5) (by omega) (by omega) (by omega) (bestF (addO o ws) ws.length : Nat) (by rw [hOl]; omega)
              refine W.reg 5 rfl fun K all hK hall => ?_
              simp (maxSteps := 2000000) (disch := first | assumption | simp [es, Env.sz_put]) only [WO_nil, List.getElem?_cons_zero, List.getElem?_cons_succ, WO_cons, WD_nil, WD_cons, List.nil_append, List.append_nil, List.cons_append, sel, nthO, wantedA_free, wantedA_by, putA_into, putA_no, execA, opv, opvs, ofConst, ofScalar, pureR, newR, skipR, builtinA, Env.get_put, binA, arith, Nat.reduceEqDiff, Nat.reduceAdd, reduceIte, bind2, Heap.bump0, isConst, beq_self_eq_true, Bool.false_eq_true, Bool.or_true, Bool.or_false, Bool.not_true, Bool.not_false, undefA, Option.map_some, and_self, bTF, bFT, e7, e8, build1, parts, p1]
              subst hK; clear hall; try simp only [Then]
              simp only [Then, BlockQ, LoopQ, EndsR, Nat.reduceEqDiff, reduceIte]
              have htk : ticksS ws.sum ws (k + 1) = ((ticksS ws.sum ws k).1 ++ [((bestF (addO o ws) ws.length : Nat) : Int)], (addO o ws).set (bestF (addO o ws) ws.length) (getI (addO o ws) (bestF (addO o ws) ws.length) - ws.sum)) := by
                simp only [ticksS, tickS, hoG, hbo]
              have hB6 : h6.get B = h5.get B := p3.2 B hB2
              refine ⟨ws.sum.toNat - (k + 1), by omega, k + 1, c', rfl, by omega, ?_, by omega, ?_, ?_, ?_, ?_, ?_, ?_, ?_⟩
              · refine ⟨by omega, fun b hb => ?_⟩
                rw [p3.2 b (by show b < H2.next; omega)]
                exact hK5.2 b hb
              · rw [htk]; exact p2
              · rw [htk, hB6]; exact hB5
              · simp only [Env.sz_put, es]
              · simp only [Env.get_put, Nat.reduceEqDiff, reduceIte, e0]
              · simp only [Env.get_put, Nat.reduceEqDiff, reduceIte, e4]
              · simp only [Env.get_put, Nat.reduceEqDiff, reduceIte, e6]
              · simp only [Env.get_put, Nat.reduceEqDiff, reduceIte]
        · refine W.seqT (W.condF (by simp only [opv, ofConst, ofScalar, Env.get_put, Nat.reduceEqDiff, reduceIte, c3, decide_false]) ?_)
          refine W.exit ?_
          simp only [Then, BlockQ, LoopQ, EndsR, Nat.reduceEqDiff, reduceIte]
          refine W.seqR 0 rfl fun K all hK hall => ?_
          simp (maxSteps := 2000000) (disch := first | assumption | simp [es, Env.sz_put]) only [WO_nil, List.getElem?_cons_zero, List.getElem?_cons_succ, WO_cons, WD_nil, WD_cons, List.nil_append, List.append_nil, List.cons_append, sel, nthO, wantedA_free, wantedA_by, putA_into, putA_no, execA, opv, opvs, ofConst, ofScalar, pureR, newR, skipR, builtinA, Env.get_put, binA, arith, Nat.reduceEqDiff, Nat.reduceAdd, reduceIte, bind2, Heap.bump0, isConst, beq_self_eq_true, Bool.false_eq_true, Bool.or_true, Bool.or_false, Bool.not_true, Bool.not_false, undefA, Option.map_some, and_self, bTF, bFT, e7]
          subst hK; clear hall; try simp only [Then]
          refine W.ret ?_
          simp only [Then, BlockQ, LoopQ, EndsR, Nat.reduceEqDiff, reduceIte]
          have hkk : k = ws.sum.toNat := by omega
          subst hkk
          refine ⟨_, rfl, c, ?_, hK2, ?_⟩
          · simp only [oneOf, Env.get_put, Nat.reduceEqDiff, reduceIte]
            simp only [buildE, if_pos hok]
          · simp only [buildE, if_pos hok]
            rcases hO with ⟨r1, r2⟩ | ⟨b, anc, r1, r2, r3, r4, r5⟩
            · exact .inl ⟨r1, r2⟩
            · exact .inr ⟨b, anc, r1, r2, by omega, r4, r5⟩
    · dsimp only at hh e2 e3
      subst hh
      simp only [Then, BlockQ, LoopQ, EndsR, Nat.reduceEqDiff, reduceIte]
      refine ⟨_, rfl, .nils, ?_, Kp.refl h1, ?_⟩
      · simp only [oneOf, e2, e3, buildE, if_neg hno]
      · simp only [buildE, if_neg hno]; exact Own.nil _ _

end Go.Proofs.Ytmggkamdihgmiaa.AM
