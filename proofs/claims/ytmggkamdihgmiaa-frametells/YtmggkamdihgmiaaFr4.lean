/-
  The frame laws, part 4: the document's own answers.
-/
import Derived.Test.YtmggkamdihgmiaaFr3
namespace Go.Proofs.Ytmggkamdihgmiaa.AM
open Go Go.Proofs
set_option linter.unusedVariables false
set_option linter.unusedSimpArgs false

theorem owner2_runs {h : Heap} {a : AV} {l : List Int} {t : Int} (ha : Holds h a l) : ∃ h', Kp h h' ∧ Runs Try.prog XA 12 [a, vi t] h (.ret (vi (ownerS l t))) h' := by
  suffices hs : ∃ r h', Runs Try.prog XA 12 [a, vi t] h r h' ∧ (r = .ret (vi (ownerS l t)) ∧ Kp h h') by
    obtain ⟨r, h', h1, rfl, h3⟩ := hs
    exact ⟨h', h3, h1⟩
  refine Runs.ends rfl Try.func12 rfl ?_
  generalize hE : Env.init [a, vi t] Try.f12.ntmps = e
  have e0 : e.get 0 = a := by subst hE; rfl
  have e1 : e.get 1 = vi t := by subst hE; rfl
  have es : e.sz = 19 := by subst hE; rfl
  clear hE
  have hl := ha.len
  refine W.seqR 0 rfl fun K all hK hall => ?_
  simp (maxSteps := 2000000) (disch := first | assumption | simp [es, Env.sz_put]) only [WO_nil, List.getElem?_cons_zero, List.getElem?_cons_succ, WO_cons, WD_nil, WD_cons, List.nil_append, List.append_nil, List.cons_append, sel, nthO, wantedA_free, wantedA_by, putA_into, putA_no, execA, opv, opvs, ofConst, ofScalar, pureR, newR, skipR, builtinA, Env.get_put, binA, arith, Nat.reduceEqDiff, Nat.reduceAdd, reduceIte, bind2, Heap.bump0, isConst, beq_self_eq_true, Bool.false_eq_true, Bool.or_true, Bool.or_false, Bool.not_true, Bool.not_false, undefA, Option.map_some, and_self, bTF, bFT]
  subst hK; clear hall; try simp only [Then]
  refine W.seqA ?_
  refine W.seqR 0 rfl fun K all hK hall => ?_
  have g3 : (all[3]?).bind (·.dst) = some 8 := by subst hall; rfl
  by_cases c1 : l = []
  · subst c1
    have n1 : ((([] : List Int).length : Int) == 0) = true := rfl
    simp (maxSteps := 2000000) (disch := first | assumption | simp [es, Env.sz_put]) only [WO_nil, List.getElem?_cons_zero, List.getElem?_cons_succ, WO_cons, WD_nil, WD_cons, List.nil_append, List.append_nil, List.cons_append, sel, nthO, wantedA_free, wantedA_by, putA_into, putA_no, execA, opv, opvs, ofConst, ofScalar, pureR, newR, skipR, builtinA, Env.get_put, binA, arith, Nat.reduceEqDiff, Nat.reduceAdd, reduceIte, bind2, Heap.bump0, isConst, beq_self_eq_true, Bool.false_eq_true, Bool.or_true, Bool.or_false, Bool.not_true, Bool.not_false, undefA, Option.map_some, and_self, bTF, bFT, e0, e1, hl, n1]
    subst hK; clear hall; try simp only [Then]
    refine W.seqT (W.condT (by simp only [opv, Env.get_put, Nat.reduceEqDiff, reduceIte]) ?_)
    refine W.seqR 0 rfl fun K all hK hall => ?_
    simp (maxSteps := 2000000) (disch := first | assumption | simp [es, Env.sz_put]) only [WO_nil, List.getElem?_cons_zero, List.getElem?_cons_succ, WO_cons, WD_nil, WD_cons, List.nil_append, List.append_nil, List.cons_append, sel, nthO, wantedA_free, wantedA_by, putA_into, putA_no, execA, opv, opvs, ofConst, ofScalar, pureR, newR, skipR, builtinA, Env.get_put, binA, arith, Nat.reduceEqDiff, Nat.reduceAdd, reduceIte, bind2, Heap.bump0, isConst, beq_self_eq_true, Bool.false_eq_true, Bool.or_true, Bool.or_false, Bool.not_true, Bool.not_false, undefA, Option.map_some, and_self, bTF, bFT]
    subst hK; clear hall; try simp only [Then]
    refine W.ret ?_
    simp only [EndsR, Then]
    refine ⟨_, rfl, ?_, Kp.refl h⟩
    simp only [oneOf, Env.get_put, Nat.reduceEqDiff, reduceIte]
    simp only [ownerS, if_true]
  · have n1 : ((l.length : Int) == 0) = false := by have := List.length_pos_iff.mpr c1; simp; omega
    simp (maxSteps := 2000000) (disch := first | assumption | simp [es, Env.sz_put]) only [WO_nil, List.getElem?_cons_zero, List.getElem?_cons_succ, WO_cons, WD_nil, WD_cons, List.nil_append, List.append_nil, List.cons_append, sel, nthO, wantedA_free, wantedA_by, putA_into, putA_no, execA, opv, opvs, ofConst, ofScalar, pureR, newR, skipR, builtinA, Env.get_put, binA, arith, Nat.reduceEqDiff, Nat.reduceAdd, reduceIte, bind2, Heap.bump0, isConst, beq_self_eq_true, Bool.false_eq_true, Bool.or_true, Bool.or_false, Bool.not_true, Bool.not_false, undefA, Option.map_some, and_self, bTF, bFT, e0, e1, hl, n1]
    subst hK; clear hall; try simp only [Then]
    by_cases c2 : t < 0
    · refine W.seqT (W.condT (by simp only [opv, Env.get_put, Nat.reduceEqDiff, reduceIte, c2, decide_true]) ?_)
      refine W.seqR 0 rfl fun K all hK hall => ?_
      simp (maxSteps := 2000000) (disch := first | assumption | simp [es, Env.sz_put]) only [WO_nil, List.getElem?_cons_zero, List.getElem?_cons_succ, WO_cons, WD_nil, WD_cons, List.nil_append, List.append_nil, List.cons_append, sel, nthO, wantedA_free, wantedA_by, putA_into, putA_no, execA, opv, opvs, ofConst, ofScalar, pureR, newR, skipR, builtinA, Env.get_put, binA, arith, Nat.reduceEqDiff, Nat.reduceAdd, reduceIte, bind2, Heap.bump0, isConst, beq_self_eq_true, Bool.false_eq_true, Bool.or_true, Bool.or_false, Bool.not_true, Bool.not_false, undefA, Option.map_some, and_self, bTF, bFT]
      subst hK; clear hall; try simp only [Then]
      refine W.ret ?_
      simp only [EndsR, Then]
      refine ⟨_, rfl, ?_, Kp.refl h⟩
      simp only [oneOf, Env.get_put, Nat.reduceEqDiff, reduceIte]
      simp only [ownerS, c1, c2, if_true, if_false]
    · refine W.seqT (W.condF (by simp only [opv, Env.get_put, Nat.reduceEqDiff, reduceIte, c2, decide_false]) ?_)
      refine W.skip ?_
      simp only [Then]
      have hp : 0 < (l.length : Int) := by have := List.length_pos_iff.mpr c1; omega
      have hne : ¬ (l.length : Int) = 0 := by omega
      have hm : t.tmod l.length = t % l.length := Int.tmod_eq_emod_of_nonneg (by omega)
      obtain ⟨b, o, ha1, ha2⟩ := ha.addr (i := t % l.length) (Int.emod_nonneg _ hne) (Int.emod_lt_of_pos _ hp)
      refine W.seqR 0 rfl fun K all hK hall => ?_
      simp (maxSteps := 2000000) (disch := first | assumption | simp [es, Env.sz_put]) only [WO_nil, List.getElem?_cons_zero, List.getElem?_cons_succ, WO_cons, WD_nil, WD_cons, List.nil_append, List.append_nil, List.cons_append, sel, nthO, wantedA_free, wantedA_by, putA_into, putA_no, execA, opv, opvs, ofConst, ofScalar, pureR, newR, skipR, builtinA, Env.get_put, binA, arith, Nat.reduceEqDiff, Nat.reduceAdd, reduceIte, bind2, Heap.bump0, isConst, beq_self_eq_true, Bool.false_eq_true, Bool.or_true, Bool.or_false, Bool.not_true, Bool.not_false, undefA, Option.map_some, and_self, bTF, bFT, e0, e1, hl, hne, hm, ha1, ha2]
      subst hK; clear hall; try simp only [Then]
      refine W.ret ?_
      simp only [EndsR, Then]
      refine ⟨_, rfl, ?_, Kp.refl h⟩
      simp only [oneOf, Env.get_put, Nat.reduceEqDiff, reduceIte]
      have hlt := Int.emod_lt_of_pos t hp
      have h0 := Int.emod_nonneg t hne
      simp only [ownerS, c1, c2, if_false]
      rw [List.getElem?_eq_getElem (by omega)]
      rfl

theorem next2_runs {h : Heap} {a : AV} {l : List Int} {t w : Int} (ha : Holds h a l) : ∃ h', Kp h h' ∧ Runs Try.prog XA 14 [a, vi t, vi w] h (.ret (vi (nextS l t w))) h' := by
  suffices hs : ∃ r h', Runs Try.prog XA 14 [a, vi t, vi w] h r h' ∧ (r = .ret (vi (nextS l t w)) ∧ Kp h h') by
    obtain ⟨r, h', h1, rfl, h3⟩ := hs
    exact ⟨h', h3, h1⟩
  refine Runs.ends rfl Try.func14 rfl ?_
  generalize hE : Env.init [a, vi t, vi w] Try.f14.ntmps = e
  have e0 : e.get 0 = a := by subst hE; rfl
  have e1 : e.get 1 = vi t := by subst hE; rfl
  have e2 : e.get 2 = vi w := by subst hE; rfl
  have es : e.sz = 31 := by subst hE; rfl
  clear hE
  have hla := ha.len
  refine W.seqR 0 rfl fun K all hK hall => ?_
  simp (maxSteps := 2000000) (disch := first | assumption | simp [es, Env.sz_put]) only [WO_nil, List.getElem?_cons_zero, List.getElem?_cons_succ, WO_cons, WD_nil, WD_cons, List.nil_append, List.append_nil, List.cons_append, sel, nthO, wantedA_free, wantedA_by, putA_into, putA_no, execA, opv, opvs, ofConst, ofScalar, pureR, newR, skipR, builtinA, Env.get_put, binA, arith, Nat.reduceEqDiff, Nat.reduceAdd, reduceIte, bind2, Heap.bump0, isConst, beq_self_eq_true, Bool.false_eq_true, Bool.or_true, Bool.or_false, Bool.not_true, Bool.not_false, undefA, Option.map_some, and_self, bTF, bFT]
  subst hK; clear hall; try simp only [Then]
  refine W.seqA ?_
  refine W.seqR 0 rfl fun K all hK hall => ?_
  simp (maxSteps := 2000000) (disch := first | assumption | simp [es, Env.sz_put]) only [WO_nil, List.getElem?_cons_zero, List.getElem?_cons_succ, WO_cons, WD_nil, WD_cons, List.nil_append, List.append_nil, List.cons_append, sel, nthO, wantedA_free, wantedA_by, putA_into, putA_no, execA, opv, opvs, ofConst, ofScalar, pureR, newR, skipR, builtinA, Env.get_put, binA, arith, Nat.reduceEqDiff, Nat.reduceAdd, reduceIte, bind2, Heap.bump0, isConst, beq_self_eq_true, Bool.false_eq_true, Bool.or_true, Bool.or_false, Bool.not_true, Bool.not_false, undefA, Option.map_some, and_self, bTF, bFT, e1]
  subst hK; clear hall; try simp only [Then]
  by_cases c1 : t < 0
  · refine W.seqT (W.condT (by simp only [opv, ofConst, ofScalar, Env.get_put, Nat.reduceEqDiff, reduceIte, c1, decide_true]) ?_)
    refine W.seqR 0 rfl fun K all hK hall => ?_
    simp (maxSteps := 2000000) (disch := first | assumption | simp [es, Env.sz_put]) only [WO_nil, List.getElem?_cons_zero, List.getElem?_cons_succ, WO_cons, WD_nil, WD_cons, List.nil_append, List.append_nil, List.cons_append, sel, nthO, wantedA_free, wantedA_by, putA_into, putA_no, execA, opv, opvs, ofConst, ofScalar, pureR, newR, skipR, builtinA, Env.get_put, binA, arith, Nat.reduceEqDiff, Nat.reduceAdd, reduceIte, bind2, Heap.bump0, isConst, beq_self_eq_true, Bool.false_eq_true, Bool.or_true, Bool.or_false, Bool.not_true, Bool.not_false, undefA, Option.map_some, and_self, bTF, bFT]
    subst hK; clear hall; try simp only [Then]
    refine W.ret ?_
    simp only [Then, BlockQ, LoopQ, EndsR, Nat.reduceEqDiff, reduceIte]
    refine ⟨_, rfl, ?_, Kp.refl h⟩
    simp only [oneOf, Env.get_put, Nat.reduceEqDiff, reduceIte]
    simp only [nextS, c1, if_true]
  · refine W.seqT (W.condF (by simp only [opv, ofConst, ofScalar, Env.get_put, Nat.reduceEqDiff, reduceIte, c1, decide_false]) ?_)
    refine W.skip ?_
    simp only [Then]
    refine W.seqA ?_
    refine W.seqR 0 rfl fun K all hK hall => ?_
    simp (maxSteps := 2000000) (disch := first | assumption | simp [es, Env.sz_put]) only [WO_nil, List.getElem?_cons_zero, List.getElem?_cons_succ, WO_cons, WD_nil, WD_cons, List.nil_append, List.append_nil, List.cons_append, sel, nthO, wantedA_free, wantedA_by, putA_into, putA_no, execA, opv, opvs, ofConst, ofScalar, pureR, newR, skipR, builtinA, Env.get_put, binA, arith, Nat.reduceEqDiff, Nat.reduceAdd, reduceIte, bind2, Heap.bump0, isConst, beq_self_eq_true, Bool.false_eq_true, Bool.or_true, Bool.or_false, Bool.not_true, Bool.not_false, undefA, Option.map_some, and_self, bTF, bFT]
    subst hK; clear hall; try simp only [Then]
    refine W.seqLoop (fun n s => ∃ i : Nat, n = l.length - i ∧ i ≤ l.length ∧ s.heap = h ∧ s.env.sz = 31 ∧ s.env.get 0 = a ∧ s.env.get 1 = vi t ∧ s.env.get 2 = vi w ∧ s.env.get 7 = vi i ∧ nextS l t w = nextF l t w (l.length - i) i) l.length ⟨0, rfl, by omega, rfl, ?_, ?_, ?_, ?_, ?_, ?_⟩ ?_
    · simp only [Env.sz_put, es]
    · simp only [Env.get_put, Nat.reduceEqDiff, reduceIte, e0]
    · simp only [Env.get_put, Nat.reduceEqDiff, reduceIte, e1]
    · simp only [Env.get_put, Nat.reduceEqDiff, reduceIte, e2]
    · simp only [Env.get_put, Nat.reduceEqDiff, reduceIte]; rfl
    · simp only [nextS, c1, if_false]; rfl
    · clear e0 e1 e2 es e
      rintro n ⟨e, h1⟩ ⟨i, rfl, hi, hh, es, e0, e1, e2, e7, hn⟩
      dsimp only at hh es e0 e1 e2 e7
      subst hh
      refine W.seqA ?_
      refine W.seqR 0 rfl fun K all hK hall => ?_
      simp (maxSteps := 2000000) (disch := first | assumption | simp [es, Env.sz_put]) only [WO_nil, List.getElem?_cons_zero, List.getElem?_cons_succ, WO_cons, WD_nil, WD_cons, List.nil_append, List.append_nil, List.cons_append, sel, nthO, wantedA_free, wantedA_by, putA_into, putA_no, execA, opv, opvs, ofConst, ofScalar, pureR, newR, skipR, builtinA, Env.get_put, binA, arith, Nat.reduceEqDiff, Nat.reduceAdd, reduceIte, bind2, Heap.bump0, isConst, beq_self_eq_true, Bool.false_eq_true, Bool.or_true, Bool.or_false, Bool.not_true, Bool.not_false, undefA, Option.map_some, and_self, bTF, bFT, e0, e7, hla]
      subst hK; clear hall; try simp only [Then]
      by_cases c2 : i < l.length
      · have c2' : (i : Int) < (l.length : Int) := by omega
        have hp : 0 < (l.length : Int) := by omega
        have hne : ¬ (l.length : Int) = 0 := by omega
        have hm : t.tmod l.length = t % l.length := Int.tmod_eq_emod_of_nonneg (by omega)
        have hlt := Int.emod_lt_of_pos t hp
        have h0 := Int.emod_nonneg t hne
        have hsm := ha.small
        have ew : IntKind.i64.wrap (t % (l.length : Int) + (i : Int)) = t % (l.length : Int) + (i : Int) := wrap_small (by omega) (by omega)
        have hm2 : (t % (l.length : Int) + (i : Int)).tmod l.length = (t % (l.length : Int) + (i : Int)) % l.length := Int.tmod_eq_emod_of_nonneg (by omega)
        have hlt2 := Int.emod_lt_of_pos (t % (l.length : Int) + (i : Int)) hp
        have h02 := Int.emod_nonneg (t % (l.length : Int) + (i : Int)) hne
        obtain ⟨b1, o1, q1, q2⟩ := ha.addr (i := (t % (l.length : Int) + (i : Int)) % l.length) h02 hlt2
        have hat : atS l t i = l[((t % (l.length : Int) + (i : Int)) % l.length).toNat] := by
          unfold atS; rw [List.getElem?_eq_getElem (by omega)]; rfl
        refine W.seqT (W.condT (by simp only [opv, ofConst, ofScalar, Env.get_put, Nat.reduceEqDiff, reduceIte, c2', decide_true]) ?_)
        refine W.skip ?_
        simp only [Then]
        refine W.seqT (W.blockT ?_)
        refine W.seqR 0 rfl fun K all hK hall => ?_
        simp (maxSteps := 2000000) (disch := first | assumption | simp [es, Env.sz_put]) only [WO_nil, List.getElem?_cons_zero, List.getElem?_cons_succ, WO_cons, WD_nil, WD_cons, List.nil_append, List.append_nil, List.cons_append, sel, nthO, wantedA_free, wantedA_by, putA_into, putA_no, execA, opv, opvs, ofConst, ofScalar, pureR, newR, skipR, builtinA, Env.get_put, binA, arith, Nat.reduceEqDiff, Nat.reduceAdd, reduceIte, bind2, Heap.bump0, isConst, beq_self_eq_true, Bool.false_eq_true, Bool.or_true, Bool.or_false, Bool.not_true, Bool.not_false, undefA, Option.map_some, and_self, bTF, bFT, e0, e1, e2, e7, hla, hne, hm, ew, hm2, q1, q2, ← hat]
        subst hK; clear hall; try simp only [Then]
        rw [next_step l t w i c2] at hn
        by_cases c3 : atS l t i = w
        · rw [if_pos c3] at hn
          have n3 : (atS l t i == w) = true := by simp [c3]
          refine W.condT (by simp only [opv, ofConst, ofScalar, Env.get_put, Nat.reduceEqDiff, reduceIte, n3]) ?_
          refine W.seqR 0 rfl fun K all hK hall => ?_
          simp (maxSteps := 2000000) (disch := first | assumption | simp [es, Env.sz_put]) only [WO_nil, List.getElem?_cons_zero, List.getElem?_cons_succ, WO_cons, WD_nil, WD_cons, List.nil_append, List.append_nil, List.cons_append, sel, nthO, wantedA_free, wantedA_by, putA_into, putA_no, execA, opv, opvs, ofConst, ofScalar, pureR, newR, skipR, builtinA, Env.get_put, binA, arith, Nat.reduceEqDiff, Nat.reduceAdd, reduceIte, bind2, Heap.bump0, isConst, beq_self_eq_true, Bool.false_eq_true, Bool.or_true, Bool.or_false, Bool.not_true, Bool.not_false, undefA, Option.map_some, and_self, bTF, bFT]
          subst hK; clear hall; try simp only [Then]
          refine W.ret ?_
          simp only [Then, BlockQ, LoopQ, EndsR, Nat.reduceEqDiff, reduceIte]
          refine ⟨_, rfl, ?_, Kp.refl h1⟩
          simp only [oneOf, Env.get_put, Nat.reduceEqDiff, reduceIte]
          rw [hn, e7]
        · rw [if_neg c3] at hn
          have n3 : (atS l t i == w) = false := by simp [c3]
          refine W.condF (by simp only [opv, ofConst, ofScalar, Env.get_put, Nat.reduceEqDiff, reduceIte, n3]) ?_
          refine W.skip ?_
          simp only [Then, BlockQ, LoopQ, EndsR, Nat.reduceEqDiff, reduceIte]
          refine W.reg 0 rfl fun K all hK hall => ?_
          simp (maxSteps := 2000000) (disch := first | assumption | simp [es, Env.sz_put]) only [WO_nil, List.getElem?_cons_zero, List.getElem?_cons_succ, WO_cons, WD_nil, WD_cons, List.nil_append, List.append_nil, List.cons_append, sel, nthO, wantedA_free, wantedA_by, putA_into, putA_no, execA, opv, opvs, ofConst, ofScalar, pureR, newR, skipR, builtinA, Env.get_put, binA, arith, Nat.reduceEqDiff, Nat.reduceAdd, reduceIte, bind2, Heap.bump0, isConst, beq_self_eq_true, Bool.false_eq_true, Bool.or_true, Bool.or_false, Bool.not_true, Bool.not_false, undefA, Option.map_some, and_self, bTF, bFT, e7]
          subst hK; clear hall; try simp only [Then]
          simp only [Then, BlockQ, LoopQ, EndsR, Nat.reduceEqDiff, reduceIte]
          refine ⟨l.length - (i + 1), by omega, i + 1, rfl, by omega, trivial, ?_, ?_, ?_, ?_, ?_, hn⟩
          · simp only [Env.sz_put, es]
          · simp only [Env.get_put, Nat.reduceEqDiff, reduceIte, e0]
          · simp only [Env.get_put, Nat.reduceEqDiff, reduceIte, e1]
          · simp only [Env.get_put, Nat.reduceEqDiff, reduceIte, e2]
          · simp only [Env.get_put, Nat.reduceEqDiff, reduceIte]
            rw [wrap_small (by omega) (by omega)]; simp
      · have c2' : ¬ (i : Int) < (l.length : Int) := by omega
        refine W.seqT (W.condF (by simp only [opv, ofConst, ofScalar, Env.get_put, Nat.reduceEqDiff, reduceIte, c2', decide_false]) ?_)
        refine W.exit ?_
        simp only [Then, BlockQ, LoopQ, EndsR, Nat.reduceEqDiff, reduceIte]
        refine W.seqR 0 rfl fun K all hK hall => ?_
        simp (maxSteps := 2000000) (disch := first | assumption | simp [es, Env.sz_put]) only [WO_nil, List.getElem?_cons_zero, List.getElem?_cons_succ, WO_cons, WD_nil, WD_cons, List.nil_append, List.append_nil, List.cons_append, sel, nthO, wantedA_free, wantedA_by, putA_into, putA_no, execA, opv, opvs, ofConst, ofScalar, pureR, newR, skipR, builtinA, Env.get_put, binA, arith, Nat.reduceEqDiff, Nat.reduceAdd, reduceIte, bind2, Heap.bump0, isConst, beq_self_eq_true, Bool.false_eq_true, Bool.or_true, Bool.or_false, Bool.not_true, Bool.not_false, undefA, Option.map_some, and_self, bTF, bFT]
        subst hK; clear hall; try simp only [Then]
        refine W.ret ?_
        simp only [Then, BlockQ, LoopQ, EndsR, Nat.reduceEqDiff, reduceIte]
        refine ⟨_, rfl, ?_, Kp.refl h1⟩
        simp only [oneOf, Env.get_put, Nat.reduceEqDiff, reduceIte]
        have : l.length - i = 0 := by omega
        rw [hn, this]; rfl


end Go.Proofs.Ytmggkamdihgmiaa.AM
