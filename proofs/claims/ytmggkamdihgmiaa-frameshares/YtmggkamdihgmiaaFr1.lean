/-
  The frame laws, part 1: lists that grow; CopyInts; Next.
-/
import Derived.Test.YtmggkamdihgmiaaFr0
namespace Go.Proofs.Ytmggkamdihgmiaa.AM
open Go Go.Proofs
set_option linter.unusedVariables false
set_option linter.unusedSimpArgs false

/-- A list that a call makes by itself: nil, or a block that is its own. -/
def Own (lo : Nat) (h : Heap) (a : AV) (l : List Int) : Prop := (a = .nils ∧ l = []) ∨ ∃ b anc, a = .slice b 0 l.length l.length false 1 ∧ h.get b = some (.cells (ints l) (.rw true) anc) ∧ lo ≤ b ∧ b < h.next ∧ l.length * 8 ≤ 140737488355328

theorem cut_all (l : List Int) : cut (ints l) 0 l.length = some (ints l) := by
  unfold cut
  have : Nat.ble (0 + l.length) (ints l).length = true := by rw [Nat.ble_eq, ints_length]; omega
  rw [this, cond_true, List.drop_zero, List.take_of_length_le (by rw [ints_length]; omega)]

theorem Own.holds {lo : Nat} {h : Heap} {a : AV} {l : List Int} (o : Own lo h a l) : Holds h a l := by
  rcases o with ⟨rfl, rfl⟩ | ⟨b, anc, rfl, h1, h2, h3, h4⟩
  · exact .inl ⟨rfl, rfl⟩
  · exact .inr ⟨b, 0, _, _, rfl, by unfold rdA; rw [h1]; exact cut_all l, h3, h4, Nat.le_refl _⟩

theorem Own.kp {lo : Nat} {h h' : Heap} {a : AV} {l : List Int} (k : Kp h h') (o : Own lo h a l) : Own lo h' a l := by
  rcases o with ⟨rfl, rfl⟩ | ⟨b, anc, rfl, h1, h2, h3, h4⟩
  · exact .inl ⟨rfl, rfl⟩
  · exact .inr ⟨b, anc, rfl, by rw [k.2 b h3]; exact h1, h2, Nat.lt_of_lt_of_le h3 k.1, h4⟩

theorem Own.nil (lo : Nat) (h : Heap) : Own lo h .nils [] := .inl ⟨rfl, rfl⟩

theorem info3 : ∃ i, Try.prog.info? 3 = some i ∧ i.size = 1 ∧ i.bytes = 8 := ⟨_, rfl, by kernel_rfl, by kernel_rfl⟩

theorem Kp.newA {h h' : Heap} (x : Kp h h') {b : Nat} (hb : h.next ≤ b) (cs : List AV) (p : Bool) : Kp h (newA h' b cs p) := x.put hb _

/-- One number more: a block of its own with it, and the list in a new block. -/
theorem Own.more {lo : Nat} {h0 h : Heap} {a : AV} {l : List Int} (o : Own lo h a l) (k0 : Kp h0 h) (hl : h0.next ≤ lo) (hlo : lo ≤ h.next) {f1 f2 n : Nat} (h1 : h.next ≤ f1) (h2 : f1 < f2) (h3 : f2 < h.next + n) (x : Int) (hs : (l.length + 1) * 8 ≤ 140737488355328) :
    ∃ a' h', appendA Try.prog (newA (h.bump n) f1 [vi x]) f2 22 22 a (.slice f1 0 1 1 true 1) = some (a', h') ∧ Own lo h' a' (l ++ [x]) ∧ Kp h0 h' ∧ h'.next = h.next + n := by
  obtain ⟨i, i1, i2, i3⟩ := info3
  have hrd : rdA (newA (h.bump n) f1 [vi x]) f1 = [vi x] := by unfold rdA newA; rw [Heap.get_put, if_pos rfl]
  have hc : cellsOfA (newA (h.bump n) f1 [vi x]) 1 (.slice f1 0 1 1 true 1) = some (1, [vi x]) := by
    simp only [cellsOfA, hrd]; rfl
  have e1 : isIntD (.slice 3) = false := rfl
  rcases o with ⟨rfl, rfl⟩ | ⟨b, anc, rfl, g1, g2, g3, g4⟩
  · refine ⟨.slice f2 0 1 1 false 1, newA (newA (h.bump n) f1 [vi x]) f2 [vi x], ?_, ?_⟩
    · simp only [appendA, und22, zero3, i1, i2, i3, hc, e1]; rfl
    · refine ⟨.inr ⟨f2, [], rfl, ?_, by omega, ?_, by simp⟩, ?_, rfl⟩
      · unfold newA; rw [Heap.get_put, if_pos rfl]; rfl
      · show f2 < h.next + n
        exact h3
      · exact ((k0.trans (Kp.bump h n)).newA (by have := k0.1; omega) _ _).newA (by have := k0.1; omega) _ _
  · have hb : (newA (h.bump n) f1 [vi x]).get b = some (.cells (ints l) (.rw true) anc) := by
      unfold newA; rw [Heap.get_put, if_neg (by omega)]; exact g1
    have c1 : Nat.ble ((l.length + 1) * 8) 140737488355328 = true := by rw [Nat.ble_eq]; exact hs
    have c2 : Nat.ble (l.length + 1) 140737488355328 = true := by rw [Nat.ble_eq]; omega
    have c3 : Nat.ble (l.length + 1) l.length = false := by
      cases hh : Nat.ble (l.length + 1) l.length with
      | false => rfl
      | true => rw [Nat.ble_eq] at hh; omega
    have c4 : Nat.beq l.length (ints l).length = true := by rw [Nat.beq_eq, ints_length]
    have c5 : [vi x].all AV.isCell = true := rfl
    refine ⟨.slice f2 0 (l.length + 1) (l.length + 1) false 1, ((newA (h.bump n) f1 [vi x]).put b (some (.cells (ints l) .st anc))).put f2 (some (.cells (ints l ++ [vi x]) (.rw true) (b :: anc))), ?_, ?_⟩
    · simp only [appendA, und22, zero3, i1, i2, i3, hc, e1, c1, c2, c3, hb, Nat.mul_one, Nat.zero_add, cut_all, c4, c5, Bool.not_true, Bool.or_self, Bool.and_self, Bool.false_eq_true, if_false, if_true, Bool.or_false]
      rfl
    · refine ⟨.inr ⟨f2, b :: anc, by simp, ?_, by omega, ?_, by simp; omega⟩, ?_, rfl⟩
      · rw [Heap.get_put, if_pos rfl, ints_append]; rfl
      · show f2 < h.next + n
        exact h3
      · exact (((k0.trans (Kp.bump h n)).newA (by have := k0.1; omega) _ _).put (by omega) _).put (by have := k0.1; omega) _
/-! ### The block that holds the one number that is appended -/
theorem build1 (h : Heap) (f : Nat) (x : Int) : buildSliceA Try.prog h f 22 1 [(0, vi x)] = some (.slice f 0 1 1 true 1, newA h f [vi x]) := by
  simp only [buildSliceA, und22, zero3]; rfl

/-! ### CopyInts -/
theorem copy_runs {h : Heap} {a : AV} {l : List Int} (ha : Holds h a l) : ∃ a' h', Kp h h' ∧ Own h.next h' a' l ∧ Runs Try.prog XA 7 [a] h (.ret a') h' := by
  suffices hs : ∃ r h', Runs Try.prog XA 7 [a] h r h' ∧ ∃ a', r = .ret a' ∧ Kp h h' ∧ Own h.next h' a' l by
    obtain ⟨r, h', h1, a', rfl, h3, h4⟩ := hs
    exact ⟨a', h', h3, h4, h1⟩
  refine Runs.ends rfl Try.func7 rfl ?_
  generalize hE : Env.init [a] Try.f7.ntmps = e
  have e0 : e.get 0 = a := by subst hE; rfl
  have es : e.sz = 19 := by subst hE; rfl
  clear hE
  have hla := ha.len
  refine W.seqR 0 rfl fun K all hK hall => ?_
  simp (maxSteps := 2000000) (disch := first | assumption | simp [es, Env.sz_put]) only [WO_nil, List.getElem?_cons_zero, List.getElem?_cons_succ, WO_cons, WD_nil, WD_cons, List.nil_append, List.append_nil, List.cons_append, sel, nthO, wantedA_free, wantedA_by, putA_into, putA_no, execA, opv, opvs, ofConst, ofScalar, pureR, newR, skipR, builtinA, Env.get_put, binA, arith, Nat.reduceEqDiff, Nat.reduceAdd, reduceIte, bind2, Heap.bump0, isConst, beq_self_eq_true, Bool.false_eq_true, Bool.or_true, Bool.or_false, Bool.not_true, Bool.not_false, undefA, Option.map_some, and_self, bTF, bFT]
  subst hK; clear hall; try simp only [Then]
  refine W.seqR 0 rfl fun K all hK hall => ?_
  simp (maxSteps := 2000000) (disch := first | assumption | simp [es, Env.sz_put]) only [WO_nil, List.getElem?_cons_zero, List.getElem?_cons_succ, WO_cons, WD_nil, WD_cons, List.nil_append, List.append_nil, List.cons_append, sel, nthO, wantedA_free, wantedA_by, putA_into, putA_no, execA, opv, opvs, ofConst, ofScalar, pureR, newR, skipR, builtinA, Env.get_put, binA, arith, Nat.reduceEqDiff, Nat.reduceAdd, reduceIte, bind2, Heap.bump0, isConst, beq_self_eq_true, Bool.false_eq_true, Bool.or_true, Bool.or_false, Bool.not_true, Bool.not_false, undefA, Option.map_some, and_self, bTF, bFT]
  subst hK; clear hall; try simp only [Then]
  refine W.seqA ?_
  refine W.seqR 0 rfl fun K all hK hall => ?_
  simp (maxSteps := 2000000) (disch := first | assumption | simp [es, Env.sz_put]) only [WO_nil, List.getElem?_cons_zero, List.getElem?_cons_succ, WO_cons, WD_nil, WD_cons, List.nil_append, List.append_nil, List.cons_append, sel, nthO, wantedA_free, wantedA_by, putA_into, putA_no, execA, opv, opvs, ofConst, ofScalar, pureR, newR, skipR, builtinA, Env.get_put, binA, arith, Nat.reduceEqDiff, Nat.reduceAdd, reduceIte, bind2, Heap.bump0, isConst, beq_self_eq_true, Bool.false_eq_true, Bool.or_true, Bool.or_false, Bool.not_true, Bool.not_false, undefA, Option.map_some, and_self, bTF, bFT]
  subst hK; clear hall; try simp only [Then]
  refine W.seqLoop (fun n s => ∃ (i : Nat) (c : AV), n = l.length - i ∧ i ≤ l.length ∧ Kp h s.heap ∧ Own h.next s.heap c (l.take i) ∧ s.env.sz = 19 ∧ s.env.get 0 = a ∧ s.env.get 3 = c ∧ s.env.get 4 = vi i) l.length ⟨0, .nils, rfl, by omega, Kp.refl h, Own.nil _ _, ?_, ?_, ?_, ?_⟩ ?_
  · simp only [Env.sz_put, es]
  · simp only [Env.get_put, Nat.reduceEqDiff, reduceIte, e0]
  · simp only [Env.get_put, Nat.reduceEqDiff, reduceIte]
  · simp only [Env.get_put, Nat.reduceEqDiff, reduceIte]; rfl
  · clear e0 es e
    rintro n ⟨e, h1⟩ ⟨i, c, rfl, hi, hk, ho, es, e0, e3, e4⟩
    dsimp only at hk ho es e0 e3 e4
    refine W.seqA ?_
    refine W.seqR 0 rfl fun K all hK hall => ?_
    simp (maxSteps := 2000000) (disch := first | assumption | simp [es, Env.sz_put]) only [WO_nil, List.getElem?_cons_zero, List.getElem?_cons_succ, WO_cons, WD_nil, WD_cons, List.nil_append, List.append_nil, List.cons_append, sel, nthO, wantedA_free, wantedA_by, putA_into, putA_no, execA, opv, opvs, ofConst, ofScalar, pureR, newR, skipR, builtinA, Env.get_put, binA, arith, Nat.reduceEqDiff, Nat.reduceAdd, reduceIte, bind2, Heap.bump0, isConst, beq_self_eq_true, Bool.false_eq_true, Bool.or_true, Bool.or_false, Bool.not_true, Bool.not_false, undefA, Option.map_some, and_self, bTF, bFT, e0, e4, hla]
    subst hK; clear hall; try simp only [Then]
    by_cases c2 : i < l.length
    · have c2' : (i : Int) < (l.length : Int) := by omega
      refine W.seqT (W.condT (by simp only [opv, ofConst, ofScalar, Env.get_put, Nat.reduceEqDiff, reduceIte, c2', decide_true]) ?_)
      refine W.skip ?_
      simp only [Then]
      refine W.seqT (W.blockT ?_)
      obtain ⟨b1, o1, q1, q2⟩ := (ha.ext hk).addr (i := (i : Int)) (by omega) c2'
      refine W.reg 8 rfl fun K all hK hall => ?_
      have q2' : loadA Try.prog (h1.bump 8) 3 (.ptr b1 o1) = some (vi l[(i : Int).toNat]) := q2
      obtain ⟨c', h2, q3, q4, q5, q6⟩ := ho.more hk (Nat.le_refl _) hk.1 (f1 := h1.next + 1 + 1 + 1 + 1 + 1) (f2 := h1.next + 1 + 1 + 1 + 1 + 1 + 1) (n := 8) (by omega) (by omega) (by omega) l[(i : Int).toNat] (by have := ha.small; simp; omega)
      simp (maxSteps := 2000000) (disch := first | assumption | simp [es, Env.sz_put]) only [WO_nil, List.getElem?_cons_zero, List.getElem?_cons_succ, WO_cons, WD_nil, WD_cons, List.nil_append, List.append_nil, List.cons_append, sel, nthO, wantedA_free, wantedA_by, putA_into, putA_no, execA, opv, opvs, ofConst, ofScalar, pureR, newR, skipR, builtinA, Env.get_put, binA, arith, Nat.reduceEqDiff, Nat.reduceAdd, reduceIte, bind2, Heap.bump0, isConst, beq_self_eq_true, Bool.false_eq_true, Bool.or_true, Bool.or_false, Bool.not_true, Bool.not_false, undefA, Option.map_some, and_self, bTF, bFT, e0, e3, e4, q1, q2', build1, parts, q3]
      subst hK; clear hall; try simp only [Then]
      simp only [Then, BlockQ, LoopQ, EndsR, Nat.reduceEqDiff, reduceIte]
      refine W.reg 0 rfl fun K all hK hall => ?_
      simp (maxSteps := 2000000) (disch := first | assumption | simp [es, Env.sz_put]) only [WO_nil, List.getElem?_cons_zero, List.getElem?_cons_succ, WO_cons, WD_nil, WD_cons, List.nil_append, List.append_nil, List.cons_append, sel, nthO, wantedA_free, wantedA_by, putA_into, putA_no, execA, opv, opvs, ofConst, ofScalar, pureR, newR, skipR, builtinA, Env.get_put, binA, arith, Nat.reduceEqDiff, Nat.reduceAdd, reduceIte, bind2, Heap.bump0, isConst, beq_self_eq_true, Bool.false_eq_true, Bool.or_true, Bool.or_false, Bool.not_true, Bool.not_false, undefA, Option.map_some, and_self, bTF, bFT, e4]
      subst hK; clear hall; try simp only [Then]
      simp only [Then, BlockQ, LoopQ, EndsR, Nat.reduceEqDiff, reduceIte]
      have ew : IntKind.i64.wrap ((i : Int) + 1) = ((i + 1 : Nat) : Int) := by
        rw [wrap_small (by omega) (by have := ha.small; omega)]; simp
      have et : l.take i ++ [l[(i : Int).toNat]] = l.take (i + 1) := by rw [List.take_succ_eq_append_getElem (by omega)]; rfl
      refine ⟨l.length - (i + 1), by omega, i + 1, c', rfl, by omega, q5, et ▸ q4, ?_, ?_, ?_, ?_⟩
      · simp only [Env.sz_put, es]
      · simp only [Env.get_put, Nat.reduceEqDiff, reduceIte, e0]
      · simp only [Env.get_put, Nat.reduceEqDiff, reduceIte]
      · simp only [Env.get_put, Nat.reduceEqDiff, reduceIte, ew]
    · have c2' : ¬ (i : Int) < (l.length : Int) := by omega
      refine W.seqT (W.condF (by simp only [opv, ofConst, ofScalar, Env.get_put, Nat.reduceEqDiff, reduceIte, c2', decide_false]) ?_)
      refine W.exit ?_
      simp only [Then, BlockQ, LoopQ, EndsR, Nat.reduceEqDiff, reduceIte]
      refine W.seqR 0 rfl fun K all hK hall => ?_
      simp (maxSteps := 2000000) (disch := first | assumption | simp [es, Env.sz_put]) only [WO_nil, List.getElem?_cons_zero, List.getElem?_cons_succ, WO_cons, WD_nil, WD_cons, List.nil_append, List.append_nil, List.cons_append, sel, nthO, wantedA_free, wantedA_by, putA_into, putA_no, execA, opv, opvs, ofConst, ofScalar, pureR, newR, skipR, builtinA, Env.get_put, binA, arith, Nat.reduceEqDiff, Nat.reduceAdd, reduceIte, bind2, Heap.bump0, isConst, beq_self_eq_true, Bool.false_eq_true, Bool.or_true, Bool.or_false, Bool.not_true, Bool.not_false, undefA, Option.map_some, and_self, bTF, bFT, e3]
      subst hK; clear hall; try simp only [Then]
      refine W.ret ?_
      simp only [Then, BlockQ, LoopQ, EndsR, Nat.reduceEqDiff, reduceIte]
      refine ⟨_, rfl, c, ?_, hk, ?_⟩
      · simp only [oneOf, Env.get_put, Nat.reduceEqDiff, reduceIte]
      · rw [List.take_of_length_le (by omega)] at ho; exact ho

/-! ### Next -/
/-- Who has the tick that is n on. -/
def atS (l : List Int) (t : Int) (n : Nat) : Int := l[((t % (l.length : Int) + n) % (l.length : Int)).toNat]?.getD 0

def nextF (l : List Int) (t w : Int) : Nat → Nat → Int
  | 0, _ => -1
  | k + 1, n => if atS l t n = w then n else nextF l t w k (n + 1)

def nextS (l : List Int) (t w : Int) : Int := if t < 0 then -1 else nextF l t w l.length 0

theorem next_step (l : List Int) (t w : Int) (n : Nat) (h : n < l.length) : nextF l t w (l.length - n) n = if atS l t n = w then (n : Int) else nextF l t w (l.length - (n + 1)) (n + 1) := by
  have : l.length - n = (l.length - (n + 1)) + 1 := by omega
  rw [this]; rfl

theorem next_runs {h : Heap} {a : AV} {l : List Int} {t w : Int} (ha : Holds h a l) : ∃ h', Kp h h' ∧ Runs Try.prog XA 13 [a, vi t, vi w] h (.ret (vi (nextS l t w))) h' := by
  suffices hs : ∃ r h', Runs Try.prog XA 13 [a, vi t, vi w] h r h' ∧ (r = .ret (vi (nextS l t w)) ∧ Kp h h') by
    obtain ⟨r, h', h1, rfl, h3⟩ := hs
    exact ⟨h', h3, h1⟩
  refine Runs.ends rfl Try.func13 rfl ?_
  generalize hE : Env.init [a, vi t, vi w] Try.f13.ntmps = e
  have e0 : e.get 0 = a := by subst hE; rfl
  have e1 : e.get 1 = vi t := by subst hE; rfl
  have e2 : e.get 2 = vi w := by subst hE; rfl
  have es : e.sz = 31 := by subst hE; rfl
  clear hE
  have hla := ha.len
  refine W.seqR 0 rfl fun K all hK hall => ?_
  simp (maxSteps := 2000000) (disch := first | assumption | simp [es, Env.sz_put]) only [WO_nil, List.getElem?_cons_zero, List.getElem?_cons_succ, WO_cons, WD_nil, WD_cons, List.nil_append, List.append_nil, List.cons_append, sel, nthO, wantedA_free, wantedA_by, putA_into, putA_no, execA, opv, opvs, ofConst, ofScalar, pureR, newR, skipR, builtinA, Env.get_put, binA, arith, Nat.reduceEqDiff, Nat.reduceAdd, reduceIte, bind2, Heap.bump0, isConst, beq_self_eq_true, Bool.false_eq_true, Bool.or_true, Bool.or_false, Bool.not_true, Bool.not_false, undefA, Option.map_some, and_self, bTF, bFT]
  subst hK; clear hall; try simp only [Then]
  refine W.seqA ?_
  refine W.seqR 0 rfl fun K all hK hall => ?_
  simp (maxSteps := 2000000) (disch := first | assumption | simp [es, Env.sz_put]) only [WO_nil, List.getElem?_cons_zero, List.getElem?_cons_succ, WO_cons, WD_nil, WD_cons, List.nil_append, List.append_nil, List.cons_append, sel, nthO, wantedA_free, wantedA_by, putA_into, putA_no, execA, opv, opvs, ofConst, ofScalar, pureR, newR, skipR, builtinA, Env.get_put, binA, arith, Nat.reduceEqDiff, Nat.reduceAdd, reduceIte, bind2, Heap.bump0, isConst, beq_self_eq_true, Bool.false_eq_true, Bool.or_true, Bool.or_false, Bool.not_true, Bool.not_false, undefA, Option.map_some, and_self, bTF, bFT, e1]
  subst hK; clear hall; try simp only [Then]
  by_cases c1 : t < 0
  · refine W.seqT (W.condT (by simp only [opv, ofConst, ofScalar, Env.get_put, Nat.reduceEqDiff, reduceIte, c1, decide_true]) ?_)
    refine W.seqR 0 rfl fun K all hK hall => ?_
    simp (maxSteps := 2000000) (disch := first | assumption | simp [es, Env.sz_put]) only [WO_nil, List.getElem?_cons_zero, List.getElem?_cons_succ, WO_cons, WD_nil, WD_cons, List.nil_append, List.append_nil, List.cons_append, sel, nthO, wantedA_free, wantedA_by, putA_into, putA_no, execA, opv, opvs, ofConst, ofScalar, pureR, newR, skipR, builtinA, Env.get_put, binA, arith, Nat.reduceEqDiff, Nat.reduceAdd, reduceIte, bind2, Heap.bump0, isConst, beq_self_eq_true, Bool.false_eq_true, Bool.or_true, Bool.or_false, Bool.not_true, Bool.not_false, undefA, Option.map_some, and_self, bTF, bFT]
    subst hK; clear hall; try simp only [Then]
    refine W.ret ?_
    simp only [Then, BlockQ, LoopQ, EndsR, Nat.reduceEqDiff, reduceIte]
    refine ⟨_, rfl, ?_, Kp.refl h⟩
    simp only [oneOf, Env.get_put, Nat.reduceEqDiff, reduceIte]
    simp only [nextS, c1, if_true]
  · refine W.seqT (W.condF (by simp only [opv, ofConst, ofScalar, Env.get_put, Nat.reduceEqDiff, reduceIte, c1, decide_false]) ?_)
    refine W.skip ?_
    simp only [Then]
    refine W.seqA ?_
    refine W.seqR 0 rfl fun K all hK hall => ?_
    simp (maxSteps := 2000000) (disch := first | assumption | simp [es, Env.sz_put]) only [WO_nil, List.getElem?_cons_zero, List.getElem?_cons_succ, WO_cons, WD_nil, WD_cons, List.nil_append, List.append_nil, List.cons_append, sel, nthO, wantedA_free, wantedA_by, putA_into, putA_no, execA, opv, opvs, ofConst, ofScalar, pureR, newR, skipR, builtinA, Env.get_put, binA, arith, Nat.reduceEqDiff, Nat.reduceAdd, reduceIte, bind2, Heap.bump0, isConst, beq_self_eq_true, Bool.false_eq_true, Bool.or_true, Bool.or_false, Bool.not_true, Bool.not_false, undefA, Option.map_some, and_self, bTF, bFT, e0, hla]
    subst hK; clear hall; try simp only [Then]
    refine W.seqLoop (fun n s => ∃ i : Nat, n = l.length - i ∧ i ≤ l.length ∧ s.heap = h ∧ s.env.sz = 31 ∧ s.env.get 0 = a ∧ s.env.get 1 = vi t ∧ s.env.get 2 = vi w ∧ s.env.get 11 = vi l.length ∧ s.env.get 12 = vi i ∧ nextS l t w = nextF l t w (l.length - i) i) l.length ⟨0, rfl, by omega, rfl, ?_, ?_, ?_, ?_, ?_, ?_, ?_⟩ ?_
    · simp only [Env.sz_put, es]
    · simp only [Env.get_put, Nat.reduceEqDiff, reduceIte, e0]
    · simp only [Env.get_put, Nat.reduceEqDiff, reduceIte, e1]
    · simp only [Env.get_put, Nat.reduceEqDiff, reduceIte, e2]
    · simp only [Env.get_put, Nat.reduceEqDiff, reduceIte]
    · simp only [Env.get_put, Nat.reduceEqDiff, reduceIte]; rfl
    · simp only [nextS, c1, if_false]; rfl
    · clear e0 e1 e2 es e
      rintro n ⟨e, h1⟩ ⟨i, rfl, hi, hh, es, e0, e1, e2, e11, e12, hn⟩
      dsimp only at hh es e0 e1 e2 e11 e12
      subst hh
      refine W.seqR 0 rfl fun K all hK hall => ?_
      simp (maxSteps := 2000000) (disch := first | assumption | simp [es, Env.sz_put]) only [WO_nil, List.getElem?_cons_zero, List.getElem?_cons_succ, WO_cons, WD_nil, WD_cons, List.nil_append, List.append_nil, List.cons_append, sel, nthO, wantedA_free, wantedA_by, putA_into, putA_no, execA, opv, opvs, ofConst, ofScalar, pureR, newR, skipR, builtinA, Env.get_put, binA, arith, Nat.reduceEqDiff, Nat.reduceAdd, reduceIte, bind2, Heap.bump0, isConst, beq_self_eq_true, Bool.false_eq_true, Bool.or_true, Bool.or_false, Bool.not_true, Bool.not_false, undefA, Option.map_some, and_self, bTF, bFT, e11, e12]
      subst hK; clear hall; try simp only [Then]
      by_cases c2 : i < l.length
      · have c2' : (i : Int) < (l.length : Int) := by omega
        have hp : 0 < (l.length : Int) := by omega
        have hne : ¬ (l.length : Int) = 0 := by omega
        have hm : t.tmod l.length = t % l.length := Int.tmod_eq_emod_of_nonneg (by omega)
        have hlt := Int.emod_lt_of_pos t hp
        have h0 := Int.emod_nonneg t hne
        have hsm := ha.small
        have ew : IntKind.i64.wrap (t % (l.length : Int) + (i : Int)) = t % (l.length : Int) + (i : Int) := wrap_small (by omega) (by omega)
        have hm2 : (t % (l.length : Int) + (i : Int)).tmod l.length = (t % (l.length : Int) + (i : Int)) % l.length := Int.tmod_eq_emod_of_nonneg (by omega)
        have hlt2 := Int.emod_lt_of_pos (t % (l.length : Int) + (i : Int)) hp
        have h02 := Int.emod_nonneg (t % (l.length : Int) + (i : Int)) hne
        obtain ⟨b1, o1, q1, q2⟩ := ha.addr (i := (t % (l.length : Int) + (i : Int)) % l.length) h02 hlt2
        have hat : atS l t i = l[((t % (l.length : Int) + (i : Int)) % l.length).toNat] := by
          unfold atS; rw [List.getElem?_eq_getElem (by omega)]; rfl
        refine W.seqT (W.condT (by simp only [opv, ofConst, ofScalar, Env.get_put, Nat.reduceEqDiff, reduceIte, c2', decide_true]) ?_)
        refine W.skip ?_
        simp only [Then]
        refine W.seqT (W.blockT ?_)
        refine W.seqR 0 rfl fun K all hK hall => ?_
        simp (maxSteps := 2000000) (disch := first | assumption | simp [es, Env.sz_put]) only [WO_nil, List.getElem?_cons_zero, List.getElem?_cons_succ, WO_cons, WD_nil, WD_cons, List.nil_append, List.append_nil, List.cons_append, sel, nthO, wantedA_free, wantedA_by, putA_into, putA_no, execA, opv, opvs, ofConst, ofScalar, pureR, newR, skipR, builtinA, Env.get_put, binA, arith, Nat.reduceEqDiff, Nat.reduceAdd, reduceIte, bind2, Heap.bump0, isConst, beq_self_eq_true, Bool.false_eq_true, Bool.or_true, Bool.or_false, Bool.not_true, Bool.not_false, undefA, Option.map_some, and_self, bTF, bFT, e12]
        subst hK; clear hall; try simp only [Then]
        refine W.seqR 0 rfl fun K all hK hall => ?_
        simp (maxSteps := 2000000) (disch := first | assumption | simp [es, Env.sz_put]) only [WO_nil, List.getElem?_cons_zero, List.getElem?_cons_succ, WO_cons, WD_nil, WD_cons, List.nil_append, List.append_nil, List.cons_append, sel, nthO, wantedA_free, wantedA_by, putA_into, putA_no, execA, opv, opvs, ofConst, ofScalar, pureR, newR, skipR, builtinA, Env.get_put, binA, arith, Nat.reduceEqDiff, Nat.reduceAdd, reduceIte, bind2, Heap.bump0, isConst, beq_self_eq_true, Bool.false_eq_true, Bool.or_true, Bool.or_false, Bool.not_true, Bool.not_false, undefA, Option.map_some, and_self, bTF, bFT, e0, e1, e2, hla, hne, hm, ew, hm2, q1, q2, ← hat]
        subst hK; clear hall; try simp only [Then]
        rw [next_step l t w i c2] at hn
        by_cases c3 : atS l t i = w
        · rw [if_pos c3] at hn
          have n3 : (atS l t i == w) = true := by simp [c3]
          refine W.condT (by simp only [opv, ofConst, ofScalar, Env.get_put, Nat.reduceEqDiff, reduceIte, n3]) ?_
          refine W.seqR 0 rfl fun K all hK hall => ?_
          simp (maxSteps := 2000000) (disch := first | assumption | simp [es, Env.sz_put]) only [WO_nil, List.getElem?_cons_zero, List.getElem?_cons_succ, WO_cons, WD_nil, WD_cons, List.nil_append, List.append_nil, List.cons_append, sel, nthO, wantedA_free, wantedA_by, putA_into, putA_no, execA, opv, opvs, ofConst, ofScalar, pureR, newR, skipR, builtinA, Env.get_put, binA, arith, Nat.reduceEqDiff, Nat.reduceAdd, reduceIte, bind2, Heap.bump0, isConst, beq_self_eq_true, Bool.false_eq_true, Bool.or_true, Bool.or_false, Bool.not_true, Bool.not_false, undefA, Option.map_some, and_self, bTF, bFT]
          subst hK; clear hall; try simp only [Then]
          refine W.ret ?_
          simp only [Then, BlockQ, LoopQ, EndsR, Nat.reduceEqDiff, reduceIte]
          refine ⟨_, rfl, ?_, Kp.refl h1⟩
          simp only [oneOf, Env.get_put, Nat.reduceEqDiff, reduceIte]
          rw [hn]
        · rw [if_neg c3] at hn
          have n3 : (atS l t i == w) = false := by simp [c3]
          refine W.condF (by simp only [opv, ofConst, ofScalar, Env.get_put, Nat.reduceEqDiff, reduceIte, n3]) ?_
          refine W.skip ?_
          simp only [Then, BlockQ, LoopQ, EndsR, Nat.reduceEqDiff, reduceIte]
          refine W.reg 0 rfl fun K all hK hall => ?_
          simp (maxSteps := 2000000) (disch := first | assumption | simp [es, Env.sz_put]) only [WO_nil, List.getElem?_cons_zero, List.getElem?_cons_succ, WO_cons, WD_nil, WD_cons, List.nil_append, List.append_nil, List.cons_append, sel, nthO, wantedA_free, wantedA_by, putA_into, putA_no, execA, opv, opvs, ofConst, ofScalar, pureR, newR, skipR, builtinA, Env.get_put, binA, arith, Nat.reduceEqDiff, Nat.reduceAdd, reduceIte, bind2, Heap.bump0, isConst, beq_self_eq_true, Bool.false_eq_true, Bool.or_true, Bool.or_false, Bool.not_true, Bool.not_false, undefA, Option.map_some, and_self, bTF, bFT, e12]
          subst hK; clear hall; try simp only [Then]
          simp only [Then, BlockQ, LoopQ, EndsR, Nat.reduceEqDiff, reduceIte]
          refine ⟨l.length - (i + 1), by omega, i + 1, rfl, by omega, trivial, ?_, ?_, ?_, ?_, ?_, ?_, hn⟩
          · simp only [Env.sz_put, es]
          · simp only [Env.get_put, Nat.reduceEqDiff, reduceIte, e0]
          · simp only [Env.get_put, Nat.reduceEqDiff, reduceIte, e1]
          · simp only [Env.get_put, Nat.reduceEqDiff, reduceIte, e2]
          · simp only [Env.get_put, Nat.reduceEqDiff, reduceIte, e11]
          · simp only [Env.get_put, Nat.reduceEqDiff, reduceIte]
            rw [wrap_small (by omega) (by omega)]; simp
      · have c2' : ¬ (i : Int) < (l.length : Int) := by omega
        refine W.seqT (W.condF (by simp only [opv, ofConst, ofScalar, Env.get_put, Nat.reduceEqDiff, reduceIte, c2', decide_false]) ?_)
        refine W.exit ?_
        simp only [Then, BlockQ, LoopQ, EndsR, Nat.reduceEqDiff, reduceIte]
        refine W.seqR 0 rfl fun K all hK hall => ?_
        simp (maxSteps := 2000000) (disch := first | assumption | simp [es, Env.sz_put]) only [WO_nil, List.getElem?_cons_zero, List.getElem?_cons_succ, WO_cons, WD_nil, WD_cons, List.nil_append, List.append_nil, List.cons_append, sel, nthO, wantedA_free, wantedA_by, putA_into, putA_no, execA, opv, opvs, ofConst, ofScalar, pureR, newR, skipR, builtinA, Env.get_put, binA, arith, Nat.reduceEqDiff, Nat.reduceAdd, reduceIte, bind2, Heap.bump0, isConst, beq_self_eq_true, Bool.false_eq_true, Bool.or_true, Bool.or_false, Bool.not_true, Bool.not_false, undefA, Option.map_some, and_self, bTF, bFT]
        subst hK; clear hall; try simp only [Then]
        refine W.ret ?_
        simp only [Then, BlockQ, LoopQ, EndsR, Nat.reduceEqDiff, reduceIte]
        refine ⟨_, rfl, ?_, Kp.refl h1⟩
        simp only [oneOf, Env.get_put, Nat.reduceEqDiff, reduceIte]
        have : l.length - i = 0 := by omega
        rw [hn, this]; rfl

end Go.Proofs.Ytmggkamdihgmiaa.AM
