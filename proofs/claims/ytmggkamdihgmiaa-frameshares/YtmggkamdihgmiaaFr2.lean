/-
  The frame laws, part 2: the frame of weights, as it is built.
-/
import Derived.Test.YtmggkamdihgmiaaFr1
namespace Go.Proofs.Ytmggkamdihgmiaa.AM
open Go Go.Proofs
set_option linter.unusedVariables false
set_option linter.unusedSimpArgs false

/-! ### What it comes to -/
def getI (l : List Int) (i : Nat) : Int := l[i]?.getD 0

def bestF (o : List Int) : Nat → Nat
  | 0 => 0
  | k + 1 => if getI o k > getI o (bestF o k) then k else bestF o k

theorem bestF_lt (o : List Int) : ∀ k, 0 < k → bestF o k < k
  | 0, h => by omega
  | 1, _ => by simp [bestF]
  | k + 2, _ => by
    have := bestF_lt o (k + 1) (by omega)
    rw [bestF]; split <;> omega

def addO (o ws : List Int) : List Int := List.zipWith (· + ·) o ws

/-- One tick more: what is owed, and who has had the ticks. -/
def tickS (sum : Int) (ws : List Int) (s : List Int × List Int) : List Int × List Int :=
  let o := addO s.2 ws
  let b := bestF o o.length
  (s.1 ++ [(b : Int)], o.set b (getI o b - sum))

def ticksS (sum : Int) (ws : List Int) : Nat → List Int × List Int
  | 0 => ([], List.replicate ws.length 0)
  | k + 1 => tickS sum ws (ticksS sum ws k)

def OkW (ws : List Int) : Prop := ws ≠ [] ∧ ws.length ≤ 16 ∧ (∀ w, w ∈ ws → 1 ≤ w) ∧ ws.sum ≤ 256
instance (ws : List Int) : Decidable (OkW ws) := by unfold OkW; exact inferInstance

def buildE (ws : List Int) : Int × List Int := if OkW ws then (0, (ticksS ws.sum ws ws.sum.toNat).1) else (143, [])

theorem addO_length {o ws : List Int} (h : o.length = ws.length) : (addO o ws).length = ws.length := by simp [addO, h]
theorem ticksS_length (sum : Int) (ws : List Int) : ∀ k, (ticksS sum ws k).2.length = ws.length ∧ (ticksS sum ws k).1.length = k
  | 0 => by simp [ticksS]
  | k + 1 => by
    obtain ⟨h1, h2⟩ := ticksS_length sum ws k
    simp only [ticksS, tickS, List.length_set, List.length_append, h2, List.length_singleton, and_true]
    exact addO_length h1

theorem getI_of {l : List Int} {i : Nat} (h : i < l.length) : getI l i = l[i] := by
  unfold getI; rw [List.getElem?_eq_getElem h]; rfl
theorem getI_out {l : List Int} {i : Nat} (h : l.length ≤ i) : getI l i = 0 := by
  unfold getI; rw [List.getElem?_eq_none h]; rfl

theorem getI_mem {l : List Int} {i : Nat} (h : i < l.length) : getI l i ∈ l := by rw [getI_of h]; exact List.getElem_mem h

theorem addO_getI {o ws : List Int} (h : o.length = ws.length) (i : Nat) : getI (addO o ws) i = getI o i + getI ws i := by
  by_cases h1 : i < o.length
  · unfold getI addO
    rw [List.getElem?_zipWith, List.getElem?_eq_getElem h1, List.getElem?_eq_getElem (by omega : i < ws.length)]; rfl
  · rw [getI_out (by rw [addO_length h]; omega), getI_out (by omega), getI_out (by omega)]; rfl

theorem getI_set (l : List Int) (j : Nat) (v : Int) (i : Nat) : getI (l.set j v) i = if j = i ∧ i < l.length then v else getI l i := by
  unfold getI
  rw [List.getElem?_set]
  by_cases h : j = i
  · subst h
    by_cases h2 : j < l.length
    · rw [if_pos rfl, if_pos h2, if_pos ⟨rfl, h2⟩]; rfl
    · rw [if_pos rfl, if_neg h2, if_neg (fun q => h2 q.2), List.getElem?_eq_none (by omega)]
  · rw [if_neg h, if_neg (fun q => h q.1)]

/-- What is owed stays small. -/
def Within (b : Int) (l : List Int) : Prop := ∀ i, -b ≤ getI l i ∧ getI l i ≤ b

theorem ticksS_within {sum : Int} {ws : List Int} (hs : 0 ≤ sum ∧ sum ≤ 256) (hw : Within 256 ws) : ∀ k : Nat, Within (512 * k) (ticksS sum ws k).2
  | 0 => by
    intro i
    have : getI (ticksS sum ws 0).2 i = 0 := by
      simp only [ticksS]
      by_cases h : i < ws.length
      · rw [getI_of (by simpa using h)]; simp
      · rw [getI_out (by simp; omega)]
    omega
  | k + 1 => by
    intro i
    have h1 := ticksS_within hs hw k
    have hl := (ticksS_length sum ws k).1
    simp only [ticksS, tickS]
    rw [getI_set]
    have ha := h1 i
    have hb := hw i
    split
    · rename_i q
      rw [addO_getI hl]
      rw [q.1]
      omega
    · rw [addO_getI hl]
      omega

/-! ### The one that is owed most -/
theorem best_runs {h : Heap} {C B n : Nat} {o : List Int} (hn : o.length = n) (h0 : 0 < n) (hC : rdA h C = [.slice B 0 n n true 1]) (hB : rdA h B = ints o) (hs : n * 8 ≤ 140737488355328) : ∃ h', Kp h h' ∧ Runs Try.prog XA 17 [.ptr C 0] h (.ret (vi (bestF o n))) h' := by
  suffices hs : ∃ r h', Runs Try.prog XA 17 [.ptr C 0] h r h' ∧ (r = .ret (vi (bestF o n)) ∧ Kp h h') by
    obtain ⟨r, h', h1, rfl, h3⟩ := hs
    exact ⟨h', h3, h1⟩
  have ld : ∀ h', rdA h' C = [.slice B 0 n n true 1] → loadA Try.prog h' 22 (.ptr C 0) = some (.slice B 0 n n true 1) := fun h' q => by
    simp only [loadA, aggA22, q]; rfl
  have ad : ∀ (i : Int), 0 ≤ i → i < n → indexAddrA Try.prog 22 (.slice B 0 n n true 1) (vi i) = some (.ptr B i.toNat) := fun i q1 q2 => by
    simp only [indexAddrA, und22, sizeA3, Nat.zero_add, Nat.mul_one]
    rw [show Nat.beq 1 1 = true from rfl, cond_true, if_pos ⟨q1, q2⟩]
  have lb : ∀ (i : Nat), i < n → loadA Try.prog h 3 (.ptr B i) = some (vi (getI o i)) := fun i q => by
    simp only [loadA, aggA3, hB]
    rw [getI_of (by omega)]
    simp [ints, q, hn]
  have ln : lenA Try.prog h 22 (.slice B 0 n n true 1) = some (vi n) := by simp only [lenA, und22]
  have ld := ld h hC
  refine Runs.ends rfl Try.func17 rfl ?_
  generalize hE : Env.init [.ptr C 0] Try.f17.ntmps = e
  have e0 : e.get 0 = .ptr C 0 := by subst hE; rfl
  have es : e.sz = 21 := by subst hE; rfl
  clear hE
  refine W.seqR 0 rfl fun K all hK hall => ?_
  simp (maxSteps := 2000000) (disch := first | assumption | simp [es, Env.sz_put]) only [WO_nil, List.getElem?_cons_zero, List.getElem?_cons_succ, WO_cons, WD_nil, WD_cons, List.nil_append, List.append_nil, List.cons_append, sel, nthO, wantedA_free, wantedA_by, putA_into, putA_no, execA, opv, opvs, ofConst, ofScalar, pureR, newR, skipR, builtinA, Env.get_put, binA, arith, Nat.reduceEqDiff, Nat.reduceAdd, reduceIte, bind2, Heap.bump0, isConst, beq_self_eq_true, Bool.false_eq_true, Bool.or_true, Bool.or_false, Bool.not_true, Bool.not_false, undefA, Option.map_some, and_self, bTF, bFT]
  subst hK; clear hall; try simp only [Then]
  refine W.seqR 0 rfl fun K all hK hall => ?_
  simp (maxSteps := 2000000) (disch := first | assumption | simp [es, Env.sz_put]) only [WO_nil, List.getElem?_cons_zero, List.getElem?_cons_succ, WO_cons, WD_nil, WD_cons, List.nil_append, List.append_nil, List.cons_append, sel, nthO, wantedA_free, wantedA_by, putA_into, putA_no, execA, opv, opvs, ofConst, ofScalar, pureR, newR, skipR, builtinA, Env.get_put, binA, arith, Nat.reduceEqDiff, Nat.reduceAdd, reduceIte, bind2, Heap.bump0, isConst, beq_self_eq_true, Bool.false_eq_true, Bool.or_true, Bool.or_false, Bool.not_true, Bool.not_false, undefA, Option.map_some, and_self, bTF, bFT]
  subst hK; clear hall; try simp only [Then]
  refine W.seqA ?_
  refine W.seqR 0 rfl fun K all hK hall => ?_
  simp (maxSteps := 2000000) (disch := first | assumption | simp [es, Env.sz_put]) only [WO_nil, List.getElem?_cons_zero, List.getElem?_cons_succ, WO_cons, WD_nil, WD_cons, List.nil_append, List.append_nil, List.cons_append, sel, nthO, wantedA_free, wantedA_by, putA_into, putA_no, execA, opv, opvs, ofConst, ofScalar, pureR, newR, skipR, builtinA, Env.get_put, binA, arith, Nat.reduceEqDiff, Nat.reduceAdd, reduceIte, bind2, Heap.bump0, isConst, beq_self_eq_true, Bool.false_eq_true, Bool.or_true, Bool.or_false, Bool.not_true, Bool.not_false, undefA, Option.map_some, and_self, bTF, bFT, e0, ld, ln]
  subst hK; clear hall; try simp only [Then]
  refine W.seqLoop (fun m s => ∃ i : Nat, m = n - i ∧ i ≤ n ∧ s.heap = h ∧ s.env.sz = 21 ∧ s.env.get 0 = .ptr C 0 ∧ s.env.get 2 = vi (bestF o i) ∧ s.env.get 5 = .slice B 0 n n true 1 ∧ s.env.get 6 = vi n ∧ s.env.get 7 = vi i) n ⟨0, rfl, by omega, rfl, ?_, ?_, ?_, ?_, ?_, ?_⟩ ?_
  · simp only [Env.sz_put, es]
  · simp only [Env.get_put, Nat.reduceEqDiff, reduceIte, e0]
  · simp only [Env.get_put, Nat.reduceEqDiff, reduceIte]; rfl
  · simp only [Env.get_put, Nat.reduceEqDiff, reduceIte]
  · simp only [Env.get_put, Nat.reduceEqDiff, reduceIte]
  · simp only [Env.get_put, Nat.reduceEqDiff, reduceIte]; rfl
  · clear e0 es e
    rintro m ⟨e, h1⟩ ⟨i, rfl, hi, hh, es, e0, e2, e5, e6, e7⟩
    dsimp only at hh es e0 e2 e5 e6 e7
    subst hh
    refine W.seqR 0 rfl fun K all hK hall => ?_
    simp (maxSteps := 2000000) (disch := first | assumption | simp [es, Env.sz_put]) only [WO_nil, List.getElem?_cons_zero, List.getElem?_cons_succ, WO_cons, WD_nil, WD_cons, List.nil_append, List.append_nil, List.cons_append, sel, nthO, wantedA_free, wantedA_by, putA_into, putA_no, execA, opv, opvs, ofConst, ofScalar, pureR, newR, skipR, builtinA, Env.get_put, binA, arith, Nat.reduceEqDiff, Nat.reduceAdd, reduceIte, bind2, Heap.bump0, isConst, beq_self_eq_true, Bool.false_eq_true, Bool.or_true, Bool.or_false, Bool.not_true, Bool.not_false, undefA, Option.map_some, and_self, bTF, bFT, e6, e7]
    subst hK; clear hall; try simp only [Then]
    by_cases c2 : i < n
    · have c2' : (i : Int) < (n : Int) := by omega
      have hbl : bestF o i < n := by
        by_cases hz : i = 0
        · subst hz; simp only [bestF]; omega
        · have := bestF_lt o i (by omega); omega
      have ad1 := ad i (by omega) c2'
      have ad2 := ad (bestF o i) (by omega) (by omega)
      rw [Int.toNat_natCast] at ad1 ad2
      have lb1 := lb i c2
      have lb2 := lb (bestF o i) hbl
      refine W.seqT (W.condT (by simp only [opv, ofConst, ofScalar, Env.get_put, Nat.reduceEqDiff, reduceIte, c2', decide_true]) ?_)
      refine W.skip ?_
      simp only [Then]
      refine W.seqT (W.blockT ?_)
      refine W.seqR 0 rfl fun K all hK hall => ?_
      simp (maxSteps := 2000000) (disch := first | assumption | simp [es, Env.sz_put]) only [WO_nil, List.getElem?_cons_zero, List.getElem?_cons_succ, WO_cons, WD_nil, WD_cons, List.nil_append, List.append_nil, List.cons_append, sel, nthO, wantedA_free, wantedA_by, putA_into, putA_no, execA, opv, opvs, ofConst, ofScalar, pureR, newR, skipR, builtinA, Env.get_put, binA, arith, Nat.reduceEqDiff, Nat.reduceAdd, reduceIte, bind2, Heap.bump0, isConst, beq_self_eq_true, Bool.false_eq_true, Bool.or_true, Bool.or_false, Bool.not_true, Bool.not_false, undefA, Option.map_some, and_self, bTF, bFT, e5, e7, ad1, lb1]
      subst hK; clear hall; try simp only [Then]
      refine W.seqR 0 rfl fun K all hK hall => ?_
      simp (maxSteps := 2000000) (disch := first | assumption | simp [es, Env.sz_put]) only [WO_nil, List.getElem?_cons_zero, List.getElem?_cons_succ, WO_cons, WD_nil, WD_cons, List.nil_append, List.append_nil, List.cons_append, sel, nthO, wantedA_free, wantedA_by, putA_into, putA_no, execA, opv, opvs, ofConst, ofScalar, pureR, newR, skipR, builtinA, Env.get_put, binA, arith, Nat.reduceEqDiff, Nat.reduceAdd, reduceIte, bind2, Heap.bump0, isConst, beq_self_eq_true, Bool.false_eq_true, Bool.or_true, Bool.or_false, Bool.not_true, Bool.not_false, undefA, Option.map_some, and_self, bTF, bFT, e0, e2, e5, e7, ld, ad2, lb2]
      subst hK; clear hall; try simp only [Then]
      by_cases c3 : getI o i > getI o (bestF o i)
      · refine W.condT (by simp only [opv, ofConst, ofScalar, Env.get_put, Nat.reduceEqDiff, reduceIte, c3, decide_true]) ?_
        refine W.reg 0 rfl fun K all hK hall => ?_
        simp (maxSteps := 2000000) (disch := first | assumption | simp [es, Env.sz_put]) only [WO_nil, List.getElem?_cons_zero, List.getElem?_cons_succ, WO_cons, WD_nil, WD_cons, List.nil_append, List.append_nil, List.cons_append, sel, nthO, wantedA_free, wantedA_by, putA_into, putA_no, execA, opv, opvs, ofConst, ofScalar, pureR, newR, skipR, builtinA, Env.get_put, binA, arith, Nat.reduceEqDiff, Nat.reduceAdd, reduceIte, bind2, Heap.bump0, isConst, beq_self_eq_true, Bool.false_eq_true, Bool.or_true, Bool.or_false, Bool.not_true, Bool.not_false, undefA, Option.map_some, and_self, bTF, bFT]
        subst hK; clear hall; try simp only [Then]
        simp only [Then, BlockQ, LoopQ, EndsR, Nat.reduceEqDiff, reduceIte]
        refine W.reg 0 rfl fun K all hK hall => ?_
        simp (maxSteps := 2000000) (disch := first | assumption | simp [es, Env.sz_put]) only [WO_nil, List.getElem?_cons_zero, List.getElem?_cons_succ, WO_cons, WD_nil, WD_cons, List.nil_append, List.append_nil, List.cons_append, sel, nthO, wantedA_free, wantedA_by, putA_into, putA_no, execA, opv, opvs, ofConst, ofScalar, pureR, newR, skipR, builtinA, Env.get_put, binA, arith, Nat.reduceEqDiff, Nat.reduceAdd, reduceIte, bind2, Heap.bump0, isConst, beq_self_eq_true, Bool.false_eq_true, Bool.or_true, Bool.or_false, Bool.not_true, Bool.not_false, undefA, Option.map_some, and_self, bTF, bFT, e7]
        subst hK; clear hall; try simp only [Then]
        simp only [Then, BlockQ, LoopQ, EndsR, Nat.reduceEqDiff, reduceIte]
        refine ⟨n - (i + 1), by omega, i + 1, rfl, by omega, trivial, ?_, ?_, ?_, ?_, ?_, ?_⟩
        · simp only [Env.sz_put, es]
        · simp only [Env.get_put, Nat.reduceEqDiff, reduceIte, e0]
        · simp only [Env.get_put, Nat.reduceEqDiff, reduceIte, bestF, c3, if_true]
        · simp only [Env.get_put, Nat.reduceEqDiff, reduceIte, e5]
        · simp only [Env.get_put, Nat.reduceEqDiff, reduceIte, e6]
        · simp only [Env.get_put, Nat.reduceEqDiff, reduceIte]
          rw [wrap_small (by omega) (by omega)]; simp
      · refine W.condF (by simp only [opv, ofConst, ofScalar, Env.get_put, Nat.reduceEqDiff, reduceIte, c3, decide_false]) ?_
        refine W.skip ?_
        simp only [Then, BlockQ, LoopQ, EndsR, Nat.reduceEqDiff, reduceIte]
        refine W.reg 0 rfl fun K all hK hall => ?_
        simp (maxSteps := 2000000) (disch := first | assumption | simp [es, Env.sz_put]) only [WO_nil, List.getElem?_cons_zero, List.getElem?_cons_succ, WO_cons, WD_nil, WD_cons, List.nil_append, List.append_nil, List.cons_append, sel, nthO, wantedA_free, wantedA_by, putA_into, putA_no, execA, opv, opvs, ofConst, ofScalar, pureR, newR, skipR, builtinA, Env.get_put, binA, arith, Nat.reduceEqDiff, Nat.reduceAdd, reduceIte, bind2, Heap.bump0, isConst, beq_self_eq_true, Bool.false_eq_true, Bool.or_true, Bool.or_false, Bool.not_true, Bool.not_false, undefA, Option.map_some, and_self, bTF, bFT, e7]
        subst hK; clear hall; try simp only [Then]
        simp only [Then, BlockQ, LoopQ, EndsR, Nat.reduceEqDiff, reduceIte]
        refine ⟨n - (i + 1), by omega, i + 1, rfl, by omega, trivial, ?_, ?_, ?_, ?_, ?_, ?_⟩
        · simp only [Env.sz_put, es]
        · simp only [Env.get_put, Nat.reduceEqDiff, reduceIte, e0]
        · simp only [Env.get_put, Nat.reduceEqDiff, reduceIte, e2, bestF, c3, if_false]
        · simp only [Env.get_put, Nat.reduceEqDiff, reduceIte, e5]
        · simp only [Env.get_put, Nat.reduceEqDiff, reduceIte, e6]
        · simp only [Env.get_put, Nat.reduceEqDiff, reduceIte]
          rw [wrap_small (by omega) (by omega)]; simp
    · have c2' : ¬ (i : Int) < (n : Int) := by omega
      refine W.seqT (W.condF (by simp only [opv, ofConst, ofScalar, Env.get_put, Nat.reduceEqDiff, reduceIte, c2', decide_false]) ?_)
      refine W.exit ?_
      simp only [Then, BlockQ, LoopQ, EndsR, Nat.reduceEqDiff, reduceIte]
      refine W.seqR 0 rfl fun K all hK hall => ?_
      simp (maxSteps := 2000000) (disch := first | assumption | simp [es, Env.sz_put]) only [WO_nil, List.getElem?_cons_zero, List.getElem?_cons_succ, WO_cons, WD_nil, WD_cons, List.nil_append, List.append_nil, List.cons_append, sel, nthO, wantedA_free, wantedA_by, putA_into, putA_no, execA, opv, opvs, ofConst, ofScalar, pureR, newR, skipR, builtinA, Env.get_put, binA, arith, Nat.reduceEqDiff, Nat.reduceAdd, reduceIte, bind2, Heap.bump0, isConst, beq_self_eq_true, Bool.false_eq_true, Bool.or_true, Bool.or_false, Bool.not_true, Bool.not_false, undefA, Option.map_some, and_self, bTF, bFT, e2]
      subst hK; clear hall; try simp only [Then]
      refine W.ret ?_
      simp only [Then, BlockQ, LoopQ, EndsR, Nat.reduceEqDiff, reduceIte]
      refine ⟨_, rfl, ?_, Kp.refl h1⟩
      simp only [oneOf, Env.get_put, Nat.reduceEqDiff, reduceIte]
      have : i = n := by omega
      subst this; rfl

end Go.Proofs.Ytmggkamdihgmiaa.AM
