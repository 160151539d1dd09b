/-
  The frame laws, part 0: facts of the program; lists of whole numbers in memory.
-/
import Derived.Test.YtmggkamdihgmiaaProg
import Derived.Test.YtmggkamdihgmiaaAm20
import Derived.KernelRfl
import Derived.IntWalk
namespace Go.Proofs.Ytmggkamdihgmiaa.AM
open Go Go.Proofs
set_option linter.unusedVariables false
set_option linter.unusedSimpArgs false

/-- The frame's example has been run by itself. -/
def XA : Told := toldB 15 true

abbrev vi (n : Int) : AV := .int .i64 n
def ints (l : List Int) : List AV := l.map fun n => .int .i64 n
theorem ints_length (l : List Int) : (ints l).length = l.length := by simp [ints]
theorem ints_append (l m : List Int) : ints (l ++ m) = ints l ++ ints m := by simp [ints]
theorem ints_cells (l : List Int) : (ints l).all AV.isCell = true := by simp [ints, AV.isCell]

theorem sizeA3 : sizeA Try.prog 3 = some 1 := by kernel_rfl
theorem aggA3 : aggA Try.prog 3 = some false := by kernel_rfl
theorem aggA22 : aggA Try.prog 22 = some false := by kernel_rfl
theorem sizeA22 : sizeA Try.prog 22 = some 1 := by kernel_rfl
theorem und3 : Try.prog.underlying 3 = some (.int .i64) := by kernel_rfl
theorem und22 : Try.prog.underlying 22 = some (.slice 3) := by kernel_rfl
theorem zero3 : zeroCellsA Try.prog 3 = some [.int .i64 0] := by kernel_rfl
theorem zero22 : zeroA Try.prog 22 = some .nils := by kernel_rfl

/-- A list of whole numbers as it lies in memory. -/
def Holds (h : Heap) (a : AV) (l : List Int) : Prop := (a = .nils ∧ l = []) ∨ ∃ b o cap ex, a = .slice b o l.length cap ex 1 ∧ cut (rdA h b) o l.length = some (ints l) ∧ b < h.next ∧ l.length * 8 ≤ 140737488355328 ∧ l.length ≤ cap

/-- All that was there is as it was. -/
def Kp (h h' : Heap) : Prop := h.next ≤ h'.next ∧ ∀ b, b < h.next → h'.get b = h.get b
theorem Kp.refl (h : Heap) : Kp h h := ⟨Nat.le_refl _, fun _ _ => rfl⟩
theorem Kp.trans {a b c : Heap} (x : Kp a b) (y : Kp b c) : Kp a c := ⟨Nat.le_trans x.1 y.1, fun k hk => by rw [y.2 k (Nat.lt_of_lt_of_le hk x.1), x.2 k hk]⟩
theorem Kp.bump (h : Heap) (n : Nat) : Kp h (h.bump n) := ⟨Nat.le_add_right _ _, fun _ _ => rfl⟩
theorem Kp.put {h h' : Heap} (x : Kp h h') {b : Nat} (hb : h.next ≤ b) (o : Option AObj) : Kp h (h'.put b o) := ⟨x.1, fun k hk => by rw [Heap.get_put, if_neg (by omega), x.2 k hk]⟩

theorem Kp.rd {h h' : Heap} (x : Kp h h') {b : Nat} (hb : b < h.next) : rdA h' b = rdA h b := by unfold rdA; rw [x.2 b hb]
theorem Holds.ext {h h' : Heap} {a : AV} {l : List Int} (x : Kp h h') (hh : Holds h a l) : Holds h' a l := by
  rcases hh with ⟨rfl, rfl⟩ | ⟨b, o, cap, ex, rfl, h1, h2, h3⟩
  · exact .inl ⟨rfl, rfl⟩
  · exact .inr ⟨b, o, cap, ex, rfl, by rw [x.rd h2]; exact h1, Nat.lt_of_lt_of_le h2 x.1, h3⟩

theorem Holds.small {h : Heap} {a : AV} {l : List Int} (hh : Holds h a l) : l.length * 8 ≤ 140737488355328 := by
  rcases hh with ⟨rfl, rfl⟩ | ⟨b, o, cap, ex, rfl, h1, h2, h3⟩
  · simp
  · exact h3.1

theorem wrap_small {n : Int} (h0 : -9223372036854775808 ≤ n) (h1 : n < 9223372036854775808) : IntKind.i64.wrap n = n := by
  rw [IntKind.wrap_i64]; omega

theorem Holds.len {h : Heap} {a : AV} {l : List Int} (hh : Holds h a l) (h' : Heap) : lenA Try.prog h' 22 a = some (vi l.length) := by
  rcases hh with ⟨rfl, rfl⟩ | ⟨b, o, cap, ex, rfl, h1, h2, h3⟩ <;> simp only [lenA, und22] <;> rfl

theorem cut_get {cs : List AV} {o n : Nat} {l : List Int} (hc : cut cs o n = some (ints l)) {i : Nat} (hi : i < l.length) : cs[o + i]? = some (vi (l[i]'hi)) := by
  unfold cut at hc
  cases hb : Nat.ble (o + n) cs.length with
  | false => rw [hb] at hc; simp at hc
  | true =>
    rw [hb] at hc
    simp only [cond_true, Option.some.injEq] at hc
    have h1 : ((cs.drop o).take n)[i]? = some (vi (l[i]'hi)) := by
      rw [hc]; simp [ints, hi]
    rw [List.getElem?_take] at h1
    split at h1
    · rw [List.getElem?_drop] at h1; exact h1
    · simp at h1

theorem Holds.addr {h : Heap} {a : AV} {l : List Int} (hh : Holds h a l) {i : Int} (h0 : 0 ≤ i) (hi : i < l.length) : ∃ b o, indexAddrA Try.prog 22 a (vi i) = some (.ptr b o) ∧ loadA Try.prog h 3 (.ptr b o) = some (vi (l[i.toNat]'(by omega))) := by
  rcases hh with ⟨rfl, rfl⟩ | ⟨b, o, cap, ex, rfl, h1, h2, h3⟩
  · simp at hi; omega
  · refine ⟨b, o + i.toNat * 1, ?_, ?_⟩
    · simp only [indexAddrA, und22, sizeA3]
      rw [show Nat.beq 1 1 = true from rfl, cond_true, if_pos ⟨h0, hi⟩]
    · simp only [loadA, aggA3, Nat.mul_one]
      exact cut_get h1 (by omega)

/-! ### Owner -/
def ownerS (l : List Int) (t : Int) : Int := if l = [] then -1 else if t < 0 then -1 else (l[(t % (l.length : Int)).toNat]?).getD (-1)

theorem owner_runs {h : Heap} {a : AV} {l : List Int} {t : Int} (ha : Holds h a l) : ∃ h', Kp h h' ∧ Runs Try.prog XA 11 [a, vi t] h (.ret (vi (ownerS l t))) h' := by
  suffices hs : ∃ r h', Runs Try.prog XA 11 [a, vi t] h r h' ∧ (r = .ret (vi (ownerS l t)) ∧ Kp h h') by
    obtain ⟨r, h', h1, rfl, h3⟩ := hs
    exact ⟨h', h3, h1⟩
  refine Runs.ends rfl Try.func11 rfl ?_
  generalize hE : Env.init [a, vi t] Try.f11.ntmps = e
  have e0 : e.get 0 = a := by subst hE; rfl
  have e1 : e.get 1 = vi t := by subst hE; rfl
  have es : e.sz = 19 := by subst hE; rfl
  clear hE
  have hl := ha.len
  refine W.seqR 0 rfl fun K all hK hall => ?_
  simp (maxSteps := 2000000) (disch := first | assumption | simp [es, Env.sz_put]) only [WO_nil, List.getElem?_cons_zero, List.getElem?_cons_succ, WO_cons, WD_nil, WD_cons, List.nil_append, List.append_nil, List.cons_append, sel, nthO, wantedA_free, wantedA_by, putA_into, putA_no, execA, opv, opvs, ofConst, ofScalar, pureR, newR, skipR, builtinA, Env.get_put, binA, arith, Nat.reduceEqDiff, Nat.reduceAdd, reduceIte, bind2, Heap.bump0, isConst, beq_self_eq_true, Bool.false_eq_true, Bool.or_true, Bool.or_false, Bool.not_true, Bool.not_false, undefA, Option.map_some, and_self, bTF, bFT]
  subst hK; clear hall; try simp only [Then]
  refine W.seqA ?_
  refine W.seqR 0 rfl fun K all hK hall => ?_
  have g3 : (all[3]?).bind (·.dst) = some 8 := by subst hall; rfl
  by_cases c1 : l = []
  · subst c1
    have n1 : ((([] : List Int).length : Int) == 0) = true := rfl
    simp (maxSteps := 2000000) (disch := first | assumption | simp [es, Env.sz_put]) only [WO_nil, List.getElem?_cons_zero, List.getElem?_cons_succ, WO_cons, WD_nil, WD_cons, List.nil_append, List.append_nil, List.cons_append, sel, nthO, wantedA_free, wantedA_by, putA_into, putA_no, execA, opv, opvs, ofConst, ofScalar, pureR, newR, skipR, builtinA, Env.get_put, binA, arith, Nat.reduceEqDiff, Nat.reduceAdd, reduceIte, bind2, Heap.bump0, isConst, beq_self_eq_true, Bool.false_eq_true, Bool.or_true, Bool.or_false, Bool.not_true, Bool.not_false, undefA, Option.map_some, and_self, bTF, bFT, e0, e1, hl, n1]
    subst hK; clear hall; try simp only [Then]
    refine W.seqT (W.condT (by simp only [opv, Env.get_put, Nat.reduceEqDiff, reduceIte]) ?_)
    refine W.seqR 0 rfl fun K all hK hall => ?_
    simp (maxSteps := 2000000) (disch := first | assumption | simp [es, Env.sz_put]) only [WO_nil, List.getElem?_cons_zero, List.getElem?_cons_succ, WO_cons, WD_nil, WD_cons, List.nil_append, List.append_nil, List.cons_append, sel, nthO, wantedA_free, wantedA_by, putA_into, putA_no, execA, opv, opvs, ofConst, ofScalar, pureR, newR, skipR, builtinA, Env.get_put, binA, arith, Nat.reduceEqDiff, Nat.reduceAdd, reduceIte, bind2, Heap.bump0, isConst, beq_self_eq_true, Bool.false_eq_true, Bool.or_true, Bool.or_false, Bool.not_true, Bool.not_false, undefA, Option.map_some, and_self, bTF, bFT]
    subst hK; clear hall; try simp only [Then]
    refine W.ret ?_
    simp only [EndsR, Then]
    refine ⟨_, rfl, ?_, Kp.refl h⟩
    simp only [oneOf, Env.get_put, Nat.reduceEqDiff, reduceIte]
    simp only [ownerS, if_true]
  · have n1 : ((l.length : Int) == 0) = false := by have := List.length_pos_iff.mpr c1; simp; omega
    simp (maxSteps := 2000000) (disch := first | assumption | simp [es, Env.sz_put]) only [WO_nil, List.getElem?_cons_zero, List.getElem?_cons_succ, WO_cons, WD_nil, WD_cons, List.nil_append, List.append_nil, List.cons_append, sel, nthO, wantedA_free, wantedA_by, putA_into, putA_no, execA, opv, opvs, ofConst, ofScalar, pureR, newR, skipR, builtinA, Env.get_put, binA, arith, Nat.reduceEqDiff, Nat.reduceAdd, reduceIte, bind2, Heap.bump0, isConst, beq_self_eq_true, Bool.false_eq_true, Bool.or_true, Bool.or_false, Bool.not_true, Bool.not_false, undefA, Option.map_some, and_self, bTF, bFT, e0, e1, hl, n1]
    subst hK; clear hall; try simp only [Then]
    by_cases c2 : t < 0
    · refine W.seqT (W.condT (by simp only [opv, Env.get_put, Nat.reduceEqDiff, reduceIte, c2, decide_true]) ?_)
      refine W.seqR 0 rfl fun K all hK hall => ?_
      simp (maxSteps := 2000000) (disch := first | assumption | simp [es, Env.sz_put]) only [WO_nil, List.getElem?_cons_zero, List.getElem?_cons_succ, WO_cons, WD_nil, WD_cons, List.nil_append, List.append_nil, List.cons_append, sel, nthO, wantedA_free, wantedA_by, putA_into, putA_no, execA, opv, opvs, ofConst, ofScalar, pureR, newR, skipR, builtinA, Env.get_put, binA, arith, Nat.reduceEqDiff, Nat.reduceAdd, reduceIte, bind2, Heap.bump0, isConst, beq_self_eq_true, Bool.false_eq_true, Bool.or_true, Bool.or_false, Bool.not_true, Bool.not_false, undefA, Option.map_some, and_self, bTF, bFT]
      subst hK; clear hall; try simp only [Then]
      refine W.ret ?_
      simp only [EndsR, Then]
      refine ⟨_, rfl, ?_, Kp.refl h⟩
      simp only [oneOf, Env.get_put, Nat.reduceEqDiff, reduceIte]
      simp only [ownerS, c1, c2, if_true, if_false]
    · refine W.seqT (W.condF (by simp only [opv, Env.get_put, Nat.reduceEqDiff, reduceIte, c2, decide_false]) ?_)
      refine W.skip ?_
      simp only [Then]
      have hp : 0 < (l.length : Int) := by have := List.length_pos_iff.mpr c1; omega
      have hne : ¬ (l.length : Int) = 0 := by omega
      have hm : t.tmod l.length = t % l.length := Int.tmod_eq_emod_of_nonneg (by omega)
      obtain ⟨b, o, ha1, ha2⟩ := ha.addr (i := t % l.length) (Int.emod_nonneg _ hne) (Int.emod_lt_of_pos _ hp)
      refine W.seqR 0 rfl fun K all hK hall => ?_
      simp (maxSteps := 2000000) (disch := first | assumption | simp [es, Env.sz_put]) only [WO_nil, List.getElem?_cons_zero, List.getElem?_cons_succ, WO_cons, WD_nil, WD_cons, List.nil_append, List.append_nil, List.cons_append, sel, nthO, wantedA_free, wantedA_by, putA_into, putA_no, execA, opv, opvs, ofConst, ofScalar, pureR, newR, skipR, builtinA, Env.get_put, binA, arith, Nat.reduceEqDiff, Nat.reduceAdd, reduceIte, bind2, Heap.bump0, isConst, beq_self_eq_true, Bool.false_eq_true, Bool.or_true, Bool.or_false, Bool.not_true, Bool.not_false, undefA, Option.map_some, and_self, bTF, bFT, e0, e1, hl, hne, hm, ha1, ha2]
      subst hK; clear hall; try simp only [Then]
      refine W.ret ?_
      simp only [EndsR, Then]
      refine ⟨_, rfl, ?_, Kp.refl h⟩
      simp only [oneOf, Env.get_put, Nat.reduceEqDiff, reduceIte]
      have hlt := Int.emod_lt_of_pos t hp
      have h0 := Int.emod_nonneg t hne
      simp only [ownerS, c1, c2, if_false]
      rw [List.getElem?_eq_getElem (by omega)]
      rfl

/-! ### Pick -/
def pickS (x n : Int) : Int := if n < 1 then 0 else if x.tmod n < 0 then IntKind.i64.wrap (x.tmod n + n) else x.tmod n

theorem pick_runs {h : Heap} {x n : Int} : ∃ h', Kp h h' ∧ Runs Try.prog XA 16 [vi x, vi n] h (.ret (vi (pickS x n))) h' := by
  suffices hs : ∃ r h', Runs Try.prog XA 16 [vi x, vi n] h r h' ∧ (r = .ret (vi (pickS x n)) ∧ Kp h h') by
    obtain ⟨r, h', h1, rfl, h3⟩ := hs
    exact ⟨h', h3, h1⟩
  refine Runs.ends rfl Try.func16 rfl ?_
  generalize hE : Env.init [vi x, vi n] Try.f16.ntmps = e
  have e0 : e.get 0 = vi x := by subst hE; rfl
  have e1 : e.get 1 = vi n := by subst hE; rfl
  have es : e.sz = 16 := by subst hE; rfl
  clear hE
  refine W.seqR 0 rfl fun K all hK hall => ?_
  simp (maxSteps := 2000000) (disch := first | assumption | simp [es, Env.sz_put]) only [WO_nil, List.getElem?_cons_zero, List.getElem?_cons_succ, WO_cons, WD_nil, WD_cons, List.nil_append, List.append_nil, List.cons_append, sel, nthO, wantedA_free, wantedA_by, putA_into, putA_no, execA, opv, opvs, ofConst, ofScalar, pureR, newR, skipR, builtinA, Env.get_put, binA, arith, Nat.reduceEqDiff, Nat.reduceAdd, reduceIte, bind2, Heap.bump0, isConst, beq_self_eq_true, Bool.false_eq_true, Bool.or_true, Bool.or_false, Bool.not_true, Bool.not_false, undefA, Option.map_some, and_self, bTF, bFT]
  subst hK; clear hall; try simp only [Then]
  refine W.seqA ?_
  refine W.seqR 0 rfl fun K all hK hall => ?_
  simp (maxSteps := 2000000) (disch := first | assumption | simp [es, Env.sz_put]) only [WO_nil, List.getElem?_cons_zero, List.getElem?_cons_succ, WO_cons, WD_nil, WD_cons, List.nil_append, List.append_nil, List.cons_append, sel, nthO, wantedA_free, wantedA_by, putA_into, putA_no, execA, opv, opvs, ofConst, ofScalar, pureR, newR, skipR, builtinA, Env.get_put, binA, arith, Nat.reduceEqDiff, Nat.reduceAdd, reduceIte, bind2, Heap.bump0, isConst, beq_self_eq_true, Bool.false_eq_true, Bool.or_true, Bool.or_false, Bool.not_true, Bool.not_false, undefA, Option.map_some, and_self, bTF, bFT, e1]
  subst hK; clear hall; try simp only [Then]
  by_cases c1 : n < 1
  · refine W.seqT (W.condT (by simp only [opv, ofConst, ofScalar, Env.get_put, Nat.reduceEqDiff, reduceIte, c1, decide_true]) ?_)
    refine W.seqR 0 rfl fun K all hK hall => ?_
    simp (maxSteps := 2000000) (disch := first | assumption | simp [es, Env.sz_put]) only [WO_nil, List.getElem?_cons_zero, List.getElem?_cons_succ, WO_cons, WD_nil, WD_cons, List.nil_append, List.append_nil, List.cons_append, sel, nthO, wantedA_free, wantedA_by, putA_into, putA_no, execA, opv, opvs, ofConst, ofScalar, pureR, newR, skipR, builtinA, Env.get_put, binA, arith, Nat.reduceEqDiff, Nat.reduceAdd, reduceIte, bind2, Heap.bump0, isConst, beq_self_eq_true, Bool.false_eq_true, Bool.or_true, Bool.or_false, Bool.not_true, Bool.not_false, undefA, Option.map_some, and_self, bTF, bFT]
    subst hK; clear hall; try simp only [Then]
    refine W.ret ?_
    simp only [EndsR, Then]
    refine ⟨_, rfl, ?_, Kp.refl h⟩
    simp only [oneOf, Env.get_put, Nat.reduceEqDiff, reduceIte]
    simp only [pickS, c1, if_true]
  · refine W.seqT (W.condF (by simp only [opv, ofConst, ofScalar, Env.get_put, Nat.reduceEqDiff, reduceIte, c1, decide_false]) ?_)
    refine W.skip ?_
    simp only [Then]
    have hne : ¬ n = 0 := by omega
    refine W.seqR 0 rfl fun K all hK hall => ?_
    simp (maxSteps := 2000000) (disch := first | assumption | simp [es, Env.sz_put]) only [WO_nil, List.getElem?_cons_zero, List.getElem?_cons_succ, WO_cons, WD_nil, WD_cons, List.nil_append, List.append_nil, List.cons_append, sel, nthO, wantedA_free, wantedA_by, putA_into, putA_no, execA, opv, opvs, ofConst, ofScalar, pureR, newR, skipR, builtinA, Env.get_put, binA, arith, Nat.reduceEqDiff, Nat.reduceAdd, reduceIte, bind2, Heap.bump0, isConst, beq_self_eq_true, Bool.false_eq_true, Bool.or_true, Bool.or_false, Bool.not_true, Bool.not_false, undefA, Option.map_some, and_self, bTF, bFT, e0, e1, hne]
    subst hK; clear hall; try simp only [Then]
    refine W.seqA ?_
    refine W.seqR 0 rfl fun K all hK hall => ?_
    simp (maxSteps := 2000000) (disch := first | assumption | simp [es, Env.sz_put]) only [WO_nil, List.getElem?_cons_zero, List.getElem?_cons_succ, WO_cons, WD_nil, WD_cons, List.nil_append, List.append_nil, List.cons_append, sel, nthO, wantedA_free, wantedA_by, putA_into, putA_no, execA, opv, opvs, ofConst, ofScalar, pureR, newR, skipR, builtinA, Env.get_put, binA, arith, Nat.reduceEqDiff, Nat.reduceAdd, reduceIte, bind2, Heap.bump0, isConst, beq_self_eq_true, Bool.false_eq_true, Bool.or_true, Bool.or_false, Bool.not_true, Bool.not_false, undefA, Option.map_some, and_self, bTF, bFT]
    subst hK; clear hall; try simp only [Then]
    by_cases c2 : x.tmod n < 0
    · refine W.seqT (W.condT (by simp only [opv, ofConst, ofScalar, Env.get_put, Nat.reduceEqDiff, reduceIte, c2, decide_true]) ?_)
      refine W.reg 0 rfl fun K all hK hall => ?_
      simp (maxSteps := 2000000) (disch := first | assumption | simp [es, Env.sz_put]) only [WO_nil, List.getElem?_cons_zero, List.getElem?_cons_succ, WO_cons, WD_nil, WD_cons, List.nil_append, List.append_nil, List.cons_append, sel, nthO, wantedA_free, wantedA_by, putA_into, putA_no, execA, opv, opvs, ofConst, ofScalar, pureR, newR, skipR, builtinA, Env.get_put, binA, arith, Nat.reduceEqDiff, Nat.reduceAdd, reduceIte, bind2, Heap.bump0, isConst, beq_self_eq_true, Bool.false_eq_true, Bool.or_true, Bool.or_false, Bool.not_true, Bool.not_false, undefA, Option.map_some, and_self, bTF, bFT, e1]
      subst hK; clear hall; try simp only [Then]
      refine W.seqR 0 rfl fun K all hK hall => ?_
      simp (maxSteps := 2000000) (disch := first | assumption | simp [es, Env.sz_put]) only [WO_nil, List.getElem?_cons_zero, List.getElem?_cons_succ, WO_cons, WD_nil, WD_cons, List.nil_append, List.append_nil, List.cons_append, sel, nthO, wantedA_free, wantedA_by, putA_into, putA_no, execA, opv, opvs, ofConst, ofScalar, pureR, newR, skipR, builtinA, Env.get_put, binA, arith, Nat.reduceEqDiff, Nat.reduceAdd, reduceIte, bind2, Heap.bump0, isConst, beq_self_eq_true, Bool.false_eq_true, Bool.or_true, Bool.or_false, Bool.not_true, Bool.not_false, undefA, Option.map_some, and_self, bTF, bFT]
      subst hK; clear hall; try simp only [Then]
      refine W.ret ?_
      simp only [EndsR, Then]
      refine ⟨_, rfl, ?_, Kp.refl h⟩
      simp only [oneOf, Env.get_put, Nat.reduceEqDiff, reduceIte]
      simp only [pickS, c1, c2, if_true, if_false]
    · refine W.seqT (W.condF (by simp only [opv, ofConst, ofScalar, Env.get_put, Nat.reduceEqDiff, reduceIte, c2, decide_false]) ?_)
      refine W.skip ?_
      simp only [Then]
      refine W.seqR 0 rfl fun K all hK hall => ?_
      simp (maxSteps := 2000000) (disch := first | assumption | simp [es, Env.sz_put]) only [WO_nil, List.getElem?_cons_zero, List.getElem?_cons_succ, WO_cons, WD_nil, WD_cons, List.nil_append, List.append_nil, List.cons_append, sel, nthO, wantedA_free, wantedA_by, putA_into, putA_no, execA, opv, opvs, ofConst, ofScalar, pureR, newR, skipR, builtinA, Env.get_put, binA, arith, Nat.reduceEqDiff, Nat.reduceAdd, reduceIte, bind2, Heap.bump0, isConst, beq_self_eq_true, Bool.false_eq_true, Bool.or_true, Bool.or_false, Bool.not_true, Bool.not_false, undefA, Option.map_some, and_self, bTF, bFT]
      subst hK; clear hall; try simp only [Then]
      refine W.ret ?_
      simp only [EndsR, Then]
      refine ⟨_, rfl, ?_, Kp.refl h⟩
      simp only [oneOf, Env.get_put, Nat.reduceEqDiff, reduceIte]
      simp only [pickS, c1, c2, if_true, if_false]

/-! ### SameInts -/
theorem same_runs {h : Heap} {a b : AV} {l m : List Int} (ha : Holds h a l) (hb : Holds h b m) : ∃ h', Kp h h' ∧ Runs Try.prog XA 10 [a, b] h (.ret (.bool (decide (l = m)))) h' := by
  suffices hs : ∃ r h', Runs Try.prog XA 10 [a, b] h r h' ∧ (r = .ret (.bool (decide (l = m))) ∧ Kp h h') by
    obtain ⟨r, h', h1, rfl, h3⟩ := hs
    exact ⟨h', h3, h1⟩
  refine Runs.ends rfl Try.func10 rfl ?_
  generalize hE : Env.init [a, b] Try.f10.ntmps = e
  have e0 : e.get 0 = a := by subst hE; rfl
  have e1 : e.get 1 = b := by subst hE; rfl
  have es : e.sz = 26 := by subst hE; rfl
  clear hE
  have hla := ha.len
  have hlb := hb.len
  refine W.seqR 0 rfl fun K all hK hall => ?_
  simp (maxSteps := 2000000) (disch := first | assumption | simp [es, Env.sz_put]) only [WO_nil, List.getElem?_cons_zero, List.getElem?_cons_succ, WO_cons, WD_nil, WD_cons, List.nil_append, List.append_nil, List.cons_append, sel, nthO, wantedA_free, wantedA_by, putA_into, putA_no, execA, opv, opvs, ofConst, ofScalar, pureR, newR, skipR, builtinA, Env.get_put, binA, arith, Nat.reduceEqDiff, Nat.reduceAdd, reduceIte, bind2, Heap.bump0, isConst, beq_self_eq_true, Bool.false_eq_true, Bool.or_true, Bool.or_false, Bool.not_true, Bool.not_false, undefA, Option.map_some, and_self, bTF, bFT]
  subst hK; clear hall; try simp only [Then]
  refine W.seqA ?_
  refine W.seqR 0 rfl fun K all hK hall => ?_
  simp (maxSteps := 2000000) (disch := first | assumption | simp [es, Env.sz_put]) only [WO_nil, List.getElem?_cons_zero, List.getElem?_cons_succ, WO_cons, WD_nil, WD_cons, List.nil_append, List.append_nil, List.cons_append, sel, nthO, wantedA_free, wantedA_by, putA_into, putA_no, execA, opv, opvs, ofConst, ofScalar, pureR, newR, skipR, builtinA, Env.get_put, binA, arith, Nat.reduceEqDiff, Nat.reduceAdd, reduceIte, bind2, Heap.bump0, isConst, beq_self_eq_true, Bool.false_eq_true, Bool.or_true, Bool.or_false, Bool.not_true, Bool.not_false, undefA, Option.map_some, and_self, bTF, bFT, e0, e1, hla, hlb]
  subst hK; clear hall; try simp only [Then]
  by_cases c1 : l.length = m.length
  · have n1 : ((l.length : Int) != (m.length : Int)) = false := by simp [c1]
    refine W.seqT (W.condF (by simp only [opv, ofConst, ofScalar, Env.get_put, Nat.reduceEqDiff, reduceIte, n1]) ?_)
    refine W.skip ?_
    simp only [Then]
    refine W.seqA ?_
    refine W.seqR 0 rfl fun K all hK hall => ?_
    simp (maxSteps := 2000000) (disch := first | assumption | simp [es, Env.sz_put]) only [WO_nil, List.getElem?_cons_zero, List.getElem?_cons_succ, WO_cons, WD_nil, WD_cons, List.nil_append, List.append_nil, List.cons_append, sel, nthO, wantedA_free, wantedA_by, putA_into, putA_no, execA, opv, opvs, ofConst, ofScalar, pureR, newR, skipR, builtinA, Env.get_put, binA, arith, Nat.reduceEqDiff, Nat.reduceAdd, reduceIte, bind2, Heap.bump0, isConst, beq_self_eq_true, Bool.false_eq_true, Bool.or_true, Bool.or_false, Bool.not_true, Bool.not_false, undefA, Option.map_some, and_self, bTF, bFT]
    subst hK; clear hall; try simp only [Then]
    refine W.seqLoop (fun n s => ∃ i : Nat, n = l.length - i ∧ i ≤ l.length ∧ s.heap = h ∧ s.env.sz = 26 ∧ s.env.get 0 = a ∧ s.env.get 1 = b ∧ s.env.get 5 = vi i ∧ l.take i = m.take i) l.length ⟨0, rfl, by omega, rfl, ?_, ?_, ?_, ?_, rfl⟩ ?_
    · simp only [Env.sz_put, es]
    · simp only [Env.get_put, Nat.reduceEqDiff, reduceIte, e0]
    · simp only [Env.get_put, Nat.reduceEqDiff, reduceIte, e1]
    · simp only [Env.get_put, Nat.reduceEqDiff, reduceIte]; rfl
    · clear e0 e1 es e
      rintro n ⟨e, h1⟩ ⟨i, rfl, hi, hh, es, e0, e1, e5, ht⟩
      dsimp only at hh es e0 e1 e5
      subst hh
      refine W.seqA ?_
      refine W.seqR 0 rfl fun K all hK hall => ?_
      simp (maxSteps := 2000000) (disch := first | assumption | simp [es, Env.sz_put]) only [WO_nil, List.getElem?_cons_zero, List.getElem?_cons_succ, WO_cons, WD_nil, WD_cons, List.nil_append, List.append_nil, List.cons_append, sel, nthO, wantedA_free, wantedA_by, putA_into, putA_no, execA, opv, opvs, ofConst, ofScalar, pureR, newR, skipR, builtinA, Env.get_put, binA, arith, Nat.reduceEqDiff, Nat.reduceAdd, reduceIte, bind2, Heap.bump0, isConst, beq_self_eq_true, Bool.false_eq_true, Bool.or_true, Bool.or_false, Bool.not_true, Bool.not_false, undefA, Option.map_some, and_self, bTF, bFT, e0, e5, hla]
      subst hK; clear hall; try simp only [Then]
      by_cases c2 : i < l.length
      · have c2' : (i : Int) < (l.length : Int) := by omega
        refine W.seqT (W.condT (by simp only [opv, ofConst, ofScalar, Env.get_put, Nat.reduceEqDiff, reduceIte, c2', decide_true]) ?_)
        refine W.skip ?_
        simp only [Then]
        refine W.seqT (W.blockT ?_)
        obtain ⟨b1, o1, q1, q2⟩ := ha.addr (i := (i : Int)) (by omega) c2'
        obtain ⟨b2, o2, q3, q4⟩ := hb.addr (i := (i : Int)) (by omega) (by omega)
        refine W.seqD 0 [0, 1, 2, 3, 4, 5, 6, 7, 8] (by kernel_rfl) (by kernel_rfl) (by kernel_rfl) rfl rfl fun K all hK hall => ?_
        simp (maxSteps := 2000000) (disch := first | assumption | simp [es, Env.sz_put]) only [WO_nil, List.getElem?_cons_zero, List.getElem?_cons_succ, WO_cons, WD_nil, WD_cons, List.nil_append, List.append_nil, List.cons_append, sel, nthO, wantedA_free, wantedA_by, putA_into, putA_no, execA, opv, opvs, ofConst, ofScalar, pureR, newR, skipR, builtinA, Env.get_put, binA, arith, Nat.reduceEqDiff, Nat.reduceAdd, reduceIte, bind2, Heap.bump0, isConst, beq_self_eq_true, Bool.false_eq_true, Bool.or_true, Bool.or_false, Bool.not_true, Bool.not_false, undefA, Option.map_some, and_self, bTF, bFT, e0, e1, e5, q1, q2, q3, q4]
        subst hK; clear hall; try simp only [Then]
        by_cases c3 : l[i] = m[i]
        · have n2 : (l[(i : Int).toNat] != m[(i : Int).toNat]) = false := by simp [c3]
          refine W.condF (by simp only [opv, ofConst, ofScalar, Env.get_put, Nat.reduceEqDiff, reduceIte, n2]) ?_
          refine W.skip ?_
          simp only [Then, BlockQ, LoopQ, EndsR, Nat.reduceEqDiff, reduceIte]
          refine W.reg 0 rfl fun K all hK hall => ?_
          simp (maxSteps := 2000000) (disch := first | assumption | simp [es, Env.sz_put]) only [WO_nil, List.getElem?_cons_zero, List.getElem?_cons_succ, WO_cons, WD_nil, WD_cons, List.nil_append, List.append_nil, List.cons_append, sel, nthO, wantedA_free, wantedA_by, putA_into, putA_no, execA, opv, opvs, ofConst, ofScalar, pureR, newR, skipR, builtinA, Env.get_put, binA, arith, Nat.reduceEqDiff, Nat.reduceAdd, reduceIte, bind2, Heap.bump0, isConst, beq_self_eq_true, Bool.false_eq_true, Bool.or_true, Bool.or_false, Bool.not_true, Bool.not_false, undefA, Option.map_some, and_self, bTF, bFT, e5]
          subst hK; clear hall; try simp only [Then]
          simp only [Then, BlockQ, LoopQ, EndsR, Nat.reduceEqDiff, reduceIte]
          refine ⟨l.length - (i + 1), by omega, i + 1, rfl, by omega, trivial, ?_, ?_, ?_, ?_, ?_⟩
          · simp only [Env.sz_put, es]
          · simp only [Env.get_put, Nat.reduceEqDiff, reduceIte, e0]
          · simp only [Env.get_put, Nat.reduceEqDiff, reduceIte, e1]
          · simp only [Env.get_put, Nat.reduceEqDiff, reduceIte]
            rw [wrap_small (by have := ha.small; omega) (by have := ha.small; omega)]
            simp
          · rw [List.take_succ_eq_append_getElem (by omega), List.take_succ_eq_append_getElem (by omega), ht, c3]
        · have n2 : (l[(i : Int).toNat] != m[(i : Int).toNat]) = true := by simp [c3]
          refine W.condT (by simp only [opv, ofConst, ofScalar, Env.get_put, Nat.reduceEqDiff, reduceIte, n2]) ?_
          refine W.seqR 0 rfl fun K all hK hall => ?_
          simp (maxSteps := 2000000) (disch := first | assumption | simp [es, Env.sz_put]) only [WO_nil, List.getElem?_cons_zero, List.getElem?_cons_succ, WO_cons, WD_nil, WD_cons, List.nil_append, List.append_nil, List.cons_append, sel, nthO, wantedA_free, wantedA_by, putA_into, putA_no, execA, opv, opvs, ofConst, ofScalar, pureR, newR, skipR, builtinA, Env.get_put, binA, arith, Nat.reduceEqDiff, Nat.reduceAdd, reduceIte, bind2, Heap.bump0, isConst, beq_self_eq_true, Bool.false_eq_true, Bool.or_true, Bool.or_false, Bool.not_true, Bool.not_false, undefA, Option.map_some, and_self, bTF, bFT]
          subst hK; clear hall; try simp only [Then]
          refine W.ret ?_
          simp only [Then, BlockQ, LoopQ, EndsR, Nat.reduceEqDiff, reduceIte]
          refine ⟨_, rfl, ?_, Kp.refl h1⟩
          simp only [oneOf, Env.get_put, Nat.reduceEqDiff, reduceIte]
          have : ¬ l = m := fun hh => c3 (by subst hh; rfl)
          simp only [this, decide_false]
      · have c2' : ¬ (i : Int) < (l.length : Int) := by omega
        refine W.seqT (W.condF (by simp only [opv, ofConst, ofScalar, Env.get_put, Nat.reduceEqDiff, reduceIte, c2', decide_false]) ?_)
        refine W.exit ?_
        simp only [Then, BlockQ, LoopQ, EndsR, Nat.reduceEqDiff, reduceIte]
        refine W.seqR 0 rfl fun K all hK hall => ?_
        simp (maxSteps := 2000000) (disch := first | assumption | simp [es, Env.sz_put]) only [WO_nil, List.getElem?_cons_zero, List.getElem?_cons_succ, WO_cons, WD_nil, WD_cons, List.nil_append, List.append_nil, List.cons_append, sel, nthO, wantedA_free, wantedA_by, putA_into, putA_no, execA, opv, opvs, ofConst, ofScalar, pureR, newR, skipR, builtinA, Env.get_put, binA, arith, Nat.reduceEqDiff, Nat.reduceAdd, reduceIte, bind2, Heap.bump0, isConst, beq_self_eq_true, Bool.false_eq_true, Bool.or_true, Bool.or_false, Bool.not_true, Bool.not_false, undefA, Option.map_some, and_self, bTF, bFT]
        subst hK; clear hall; try simp only [Then]
        refine W.ret ?_
        simp only [Then, BlockQ, LoopQ, EndsR, Nat.reduceEqDiff, reduceIte]
        refine ⟨_, rfl, ?_, Kp.refl h1⟩
        simp only [oneOf, Env.get_put, Nat.reduceEqDiff, reduceIte]
        have : l = m := by
          rw [List.take_of_length_le (by omega), List.take_of_length_le (by omega)] at ht
          exact ht
        simp only [this, decide_true]
  · have n1 : ((l.length : Int) != (m.length : Int)) = true := by simp; omega
    refine W.seqT (W.condT (by simp only [opv, ofConst, ofScalar, Env.get_put, Nat.reduceEqDiff, reduceIte, n1]) ?_)
    refine W.seqR 0 rfl fun K all hK hall => ?_
    simp (maxSteps := 2000000) (disch := first | assumption | simp [es, Env.sz_put]) only [WO_nil, List.getElem?_cons_zero, List.getElem?_cons_succ, WO_cons, WD_nil, WD_cons, List.nil_append, List.append_nil, List.cons_append, sel, nthO, wantedA_free, wantedA_by, putA_into, putA_no, execA, opv, opvs, ofConst, ofScalar, pureR, newR, skipR, builtinA, Env.get_put, binA, arith, Nat.reduceEqDiff, Nat.reduceAdd, reduceIte, bind2, Heap.bump0, isConst, beq_self_eq_true, Bool.false_eq_true, Bool.or_true, Bool.or_false, Bool.not_true, Bool.not_false, undefA, Option.map_some, and_self, bTF, bFT]
    subst hK; clear hall; try simp only [Then]
    refine W.ret ?_
    simp only [Then, BlockQ, LoopQ, EndsR, Nat.reduceEqDiff, reduceIte]
    refine ⟨_, rfl, ?_, Kp.refl h⟩
    simp only [oneOf, Env.get_put, Nat.reduceEqDiff, reduceIte]
    have : ¬ l = m := fun hh => c1 (by rw [hh])
    simp only [this, decide_false]
end Go.Proofs.Ytmggkamdihgmiaa.AM
