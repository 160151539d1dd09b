/-
  The frame laws, part 3: frame.Build.
-/
import Derived.Test.YtmggkamdihgmiaaFr2
namespace Go.Proofs.Ytmggkamdihgmiaa.AM
open Go Go.Proofs
set_option linter.unusedVariables false
set_option linter.unusedSimpArgs false

theorem sum_take_le {ws : List Int} (h : ∀ w, w ∈ ws → 1 ≤ w) : ∀ k, (ws.take k).sum ≤ ws.sum := by
  induction ws with
  | nil => intro k; simp
  | cons w ws ih =>
    intro k
    have h1 := h w List.mem_cons_self
    have ih := ih fun x hx => h x (List.mem_cons_of_mem _ hx)
    cases k with
    | zero => have := ih 0; simp at this ⊢; omega
    | succ k => have := ih k; simp; omega

theorem sum_take_succ (ws : List Int) (i : Nat) (h : i < ws.length) : (ws.take (i + 1)).sum = (ws.take i).sum + getI ws i := by
  rw [List.take_succ_eq_append_getElem h, getI_of h, List.sum_append]; simp

theorem ints_set (l : List Int) (i : Nat) (v : Int) : (ints l).set i (vi v) = ints (l.set i v) := by
  unfold ints; rw [List.map_set]

theorem store_in {h : Heap} {B i : Nat} {m : List Int} (hB : h.get B = some (.cells (ints m) (.rw true) [])) (hi : i < m.length) (v : Int) : storeA Try.prog h 3 (.ptr B i) (vi v) = some (h.put B (some (.cells (ints (m.set i v)) (.rw true) []))) := by
  have c1 : Nat.ble (i + 1) (ints m).length = true := by rw [Nat.ble_eq, ints_length]; omega
  simp only [storeA, AV.cells, sizeA3, List.length_singleton, pokeA, hB, c1, List.all_cons, List.all_nil, AV.isCell, Bool.and_self, cond_true, Heap.drop, lay, ints_set]
  rfl

theorem times_zero : ∀ n : Nat, times n [vi 0] = ints (List.replicate n 0)
  | 0 => rfl
  | n + 1 => by simp only [times, times_zero n, List.replicate_succ]; rfl

theorem make_ints (h : Heap) (f n : Nat) (hn : n * 8 ≤ 140737488355328) : makeSliceA Try.prog h f 22 (vi n) (vi n) = some (.slice f 0 n n true 1, newA h f (ints (List.replicate n 0))) := by
  obtain ⟨i, i1, i2, i3⟩ := info3
  simp only [makeSliceA, und22, zero3, i1, i3]
  rw [if_pos (by omega)]
  simp only [List.length_singleton, Int.toNat_natCast, times_zero]
  rfl

theorem alloc22 (h : Heap) (f : Nat) : allocA Try.prog h f 22 = some (.ptr f 0, newA h f [.nils]) := by
  simp only [allocA, zero22]; rfl

theorem store_cell {h : Heap} {C : Nat} {v : AV} (v' : AV) (hC : h.get C = some (.cells [v] (.rw true) [])) (hv : v'.cells = some [v']) (hv2 : v'.isCell = true) : storeA Try.prog h 22 (.ptr C 0) v' = some (h.put C (some (.cells [v'] (.rw true) []))) := by
  simp only [storeA, hv, sizeA22, List.length_singleton, pokeA, hC, List.all_cons, List.all_nil, hv2, Bool.and_self, Heap.drop, lay]
  rfl

theorem load_cell {h : Heap} {C : Nat} {v : AV} {md : Md} {anc : List Nat} (hC : h.get C = some (.cells [v] md anc)) : loadA Try.prog h 22 (.ptr C 0) = some v := by
  simp only [loadA, aggA22, rdA, hC]; rfl

theorem load_in {h : Heap} {B i : Nat} {m : List Int} {md : Md} {anc : List Nat} (hB : h.get B = some (.cells (ints m) md anc)) (hi : i < m.length) : loadA Try.prog h 3 (.ptr B i) = some (vi (getI m i)) := by
  simp only [loadA, aggA3, rdA, hB, getI_of hi]
  simp [ints, hi]

theorem addr_in (B n : Nat) {i : Nat} (hi : i < n) (ex : Bool) (cap : Nat) : indexAddrA Try.prog 22 (.slice B 0 n cap ex 1) (vi i) = some (.ptr B i) := by
  simp only [indexAddrA, und22, sizeA3, Nat.zero_add, Nat.mul_one, Int.toNat_natCast]
  rw [show Nat.beq 1 1 = true from rfl, cond_true, if_pos (by omega)]

theorem len_in (h : Heap) (B o n cap : Nat) (ex : Bool) (sz : Nat) : lenA Try.prog h 22 (.slice B o n cap ex sz) = some (vi n) := by
  simp only [lenA, und22]

theorem Own.put_low {lo : Nat} {h : Heap} {a : AV} {l : List Int} (o : Own lo h a l) {b : Nat} (hb : b < lo) (x : Option AObj) : Own lo (h.put b x) a l := by
  rcases o with ⟨rfl, rfl⟩ | ⟨c, anc, rfl, h1, h2, h3, h4⟩
  · exact .inl ⟨rfl, rfl⟩
  · exact .inr ⟨c, anc, rfl, by rw [Heap.get_put, if_neg (by omega)]; exact h1, h2, h3, h4⟩

set_option maxHeartbeats 1000000 in
theorem build_runs {h : Heap} {a : AV} {ws : List Int} (ha : Holds h a ws) (hr : ∀ w, w ∈ ws → -9223372036854775808 ≤ w ∧ w < 9223372036854775808) : ∃ a' h', Kp h h' ∧ Own h.next h' a' (buildE ws).2 ∧ Runs Try.prog XA 8 [a] h (.ret (.tup [a', vi (buildE ws).1])) h' := by
  suffices hs : ∃ r h', Runs Try.prog XA 8 [a] h r h' ∧ ∃ a', r = .ret (.tup [a', vi (buildE ws).1]) ∧ Kp h h' ∧ Own h.next h' a' (buildE ws).2 by
    obtain ⟨r, h', h1, a', rfl, h3, h4⟩ := hs
    exact ⟨a', h', h3, h4, h1⟩
  refine Runs.ends rfl Try.func8 rfl ?_
  generalize hE : Env.init [a] Try.f8.ntmps = e
  have e0 : e.get 0 = a := by subst hE; rfl
  have es : e.sz = 76 := by subst hE; rfl
  clear hE
  have hla := ha.len
  refine W.seqR 0 rfl fun K all hK hall => ?_
  simp (maxSteps := 2000000) (disch := first | assumption | simp [es, Env.sz_put]) only [WO_nil, List.getElem?_cons_zero, List.getElem?_cons_succ, WO_cons, WD_nil, WD_cons, List.nil_append, List.append_nil, List.cons_append, sel, nthO, wantedA_free, wantedA_by, putA_into, putA_no, execA, opv, opvs, ofConst, ofScalar, pureR, newR, skipR, builtinA, Env.get_put, binA, arith, Nat.reduceEqDiff, Nat.reduceAdd, reduceIte, bind2, Heap.bump0, isConst, beq_self_eq_true, Bool.false_eq_true, Bool.or_true, Bool.or_false, Bool.not_true, Bool.not_false, undefA, Option.map_some, and_self, bTF, bFT]
  subst hK; clear hall; try simp only [Then]
  refine W.seqR 0 rfl fun K all hK hall => ?_
  simp (maxSteps := 2000000) (disch := first | assumption | simp [es, Env.sz_put]) only [WO_nil, List.getElem?_cons_zero, List.getElem?_cons_succ, WO_cons, WD_nil, WD_cons, List.nil_append, List.append_nil, List.cons_append, sel, nthO, wantedA_free, wantedA_by, putA_into, putA_no, execA, opv, opvs, ofConst, ofScalar, pureR, newR, skipR, builtinA, Env.get_put, binA, arith, Nat.reduceEqDiff, Nat.reduceAdd, reduceIte, bind2, Heap.bump0, isConst, beq_self_eq_true, Bool.false_eq_true, Bool.or_true, Bool.or_false, Bool.not_true, Bool.not_false, undefA, Option.map_some, and_self, bTF, bFT]
  subst hK; clear hall; try simp only [Then]
  refine W.seqA ?_
  refine W.seqR 0 rfl fun K all hK hall => ?_
  simp (maxSteps := 2000000) (disch := first | assumption | simp [es, Env.sz_put]) only [WO_nil, List.getElem?_cons_zero, List.getElem?_cons_succ, WO_cons, WD_nil, WD_cons, List.nil_append, List.append_nil, List.cons_append, sel, nthO, wantedA_free, wantedA_by, putA_into, putA_no, execA, opv, opvs, ofConst, ofScalar, pureR, newR, skipR, builtinA, Env.get_put, binA, arith, Nat.reduceEqDiff, Nat.reduceAdd, reduceIte, bind2, Heap.bump0, isConst, beq_self_eq_true, Bool.false_eq_true, Bool.or_true, Bool.or_false, Bool.not_true, Bool.not_false, undefA, Option.map_some, and_self, bTF, bFT, e0, hla]
  subst hK; clear hall; try simp only [Then]
  refine W.seqM (fun o s => o = .norm ∧ s.heap = h ∧ s.env.sz = 76 ∧ s.env.get 0 = a ∧ s.env.get 4 = vi ws.sum ∧ (∀ w, w ∈ ws → 1 ≤ w) ∧ ws.sum ≤ 256 ∨ o = .ret ∧ s.heap = h ∧ s.env.get 2 = .nils ∧ s.env.get 3 = vi 143 ∧ ¬ OkW ws) (W.blockT (W.whileT (fun m s => ∃ i : Nat, m = ws.length - i ∧ i ≤ ws.length ∧ s.heap = h ∧ s.env.sz = 76 ∧ s.env.get 0 = a ∧ s.env.get 4 = vi (ws.take i).sum ∧ s.env.get 13 = a ∧ s.env.get 14 = vi ws.length ∧ s.env.get 15 = vi i ∧ (∀ w, w ∈ ws.take i → 1 ≤ w) ∧ (ws.take i).sum ≤ 256 ∧ 0 ≤ (ws.take i).sum) ?_ ws.length _ ⟨0, rfl, by omega, rfl, ?_, ?_, ?_, ?_, ?_, ?_, ?_, ?_, ?_⟩)) ?_
  case refine_2 => simp only [Env.sz_put, es]
  case refine_3 => simp only [Env.get_put, Nat.reduceEqDiff, reduceIte, e0]
  case refine_4 => simp only [Env.get_put, Nat.reduceEqDiff, reduceIte]; rfl
  case refine_5 => simp only [Env.get_put, Nat.reduceEqDiff, reduceIte]
  case refine_6 => simp only [Env.get_put, Nat.reduceEqDiff, reduceIte]
  case refine_7 => simp only [Env.get_put, Nat.reduceEqDiff, reduceIte]; rfl
  case refine_8 => intro w hw; simp at hw
  case refine_9 => simp
  case refine_10 => simp
  case refine_1 =>
    clear e0 es e
    rintro m ⟨e, h1⟩ ⟨i, rfl, hi, hh, es, e0, e4, e13, e14, e15, hp, hs, hs0⟩
    dsimp only at hh es e0 e4 e13 e14 e15
    subst hh
    have hsm := ha.small
    refine W.seqR 0 rfl fun K all hK hall => ?_
    simp (maxSteps := 2000000) (disch := first | assumption | simp [es, Env.sz_put]) only [WO_nil, List.getElem?_cons_zero, List.getElem?_cons_succ, WO_cons, WD_nil, WD_cons, List.nil_append, List.append_nil, List.cons_append, sel, nthO, wantedA_free, wantedA_by, putA_into, putA_no, execA, opv, opvs, ofConst, ofScalar, pureR, newR, skipR, builtinA, Env.get_put, binA, arith, Nat.reduceEqDiff, Nat.reduceAdd, reduceIte, bind2, Heap.bump0, isConst, beq_self_eq_true, Bool.false_eq_true, Bool.or_true, Bool.or_false, Bool.not_true, Bool.not_false, undefA, Option.map_some, and_self, bTF, bFT, e14, e15]
    subst hK; clear hall; try simp only [Then]
    by_cases c2 : i < ws.length
    · have c2' : (i : Int) < (ws.length : Int) := by omega
      obtain ⟨b1, o1, q1, q2⟩ := ha.addr (i := (i : Int)) (by omega) c2'
      have q2 : loadA Try.prog h1 3 (.ptr b1 o1) = some (vi (getI ws i)) := by rw [q2, getI_of c2]; rfl
      have hri := hr _ (getI_mem c2)
      refine W.seqT (W.condT (by simp only [opv, ofConst, ofScalar, Env.get_put, Nat.reduceEqDiff, reduceIte, c2', decide_true]) ?_)
      refine W.skip ?_
      simp only [Then]
      refine W.seqT (W.blockT ?_)
      refine W.seqR 0 rfl fun K all hK hall => ?_
      simp (maxSteps := 2000000) (disch := first | assumption | simp [es, Env.sz_put]) only [WO_nil, List.getElem?_cons_zero, List.getElem?_cons_succ, WO_cons, WD_nil, WD_cons, List.nil_append, List.append_nil, List.cons_append, sel, nthO, wantedA_free, wantedA_by, putA_into, putA_no, execA, opv, opvs, ofConst, ofScalar, pureR, newR, skipR, builtinA, Env.get_put, binA, arith, Nat.reduceEqDiff, Nat.reduceAdd, reduceIte, bind2, Heap.bump0, isConst, beq_self_eq_true, Bool.false_eq_true, Bool.or_true, Bool.or_false, Bool.not_true, Bool.not_false, undefA, Option.map_some, and_self, bTF, bFT, e13, e15, q1, q2]
      subst hK; clear hall; try simp only [Then]
      refine W.seqA ?_
      refine W.seqR 0 rfl fun K all hK hall => ?_
      have g2 : (all[2]?).bind (·.dst) = some 21 := by subst hall; rfl
      have ew : IntKind.i64.wrap (256 - (ws.take i).sum) = 256 - (ws.take i).sum := wrap_small (by omega) (by omega)
      have hts := sum_take_succ ws i c2
      by_cases c3 : getI ws i < 1
      · have n3 : decide (getI ws i < 1) = true := by simp [c3]
        simp (maxSteps := 2000000) (disch := first | assumption | simp [es, Env.sz_put]) only [WO_nil, List.getElem?_cons_zero, List.getElem?_cons_succ, WO_cons, WD_nil, WD_cons, List.nil_append, List.append_nil, List.cons_append, sel, nthO, wantedA_free, wantedA_by, putA_into, putA_no, execA, opv, opvs, ofConst, ofScalar, pureR, newR, skipR, builtinA, Env.get_put, binA, arith, Nat.reduceEqDiff, Nat.reduceAdd, reduceIte, bind2, Heap.bump0, isConst, beq_self_eq_true, Bool.false_eq_true, Bool.or_true, Bool.or_false, Bool.not_true, Bool.not_false, undefA, Option.map_some, and_self, bTF, bFT, n3]
        subst hK; clear hall; try simp only [Then]
        refine W.seqT (W.condT (by simp only [opv, ofConst, ofScalar, Env.get_put, Nat.reduceEqDiff, reduceIte, n3]) ?_)
        refine W.seqR 0 rfl fun K all hK hall => ?_
        simp (maxSteps := 2000000) (disch := first | assumption | simp [es, Env.sz_put]) only [WO_nil, List.getElem?_cons_zero, List.getElem?_cons_succ, WO_cons, WD_nil, WD_cons, List.nil_append, List.append_nil, List.cons_append, sel, nthO, wantedA_free, wantedA_by, putA_into, putA_no, execA, opv, opvs, ofConst, ofScalar, pureR, newR, skipR, builtinA, Env.get_put, binA, arith, Nat.reduceEqDiff, Nat.reduceAdd, reduceIte, bind2, Heap.bump0, isConst, beq_self_eq_true, Bool.false_eq_true, Bool.or_true, Bool.or_false, Bool.not_true, Bool.not_false, undefA, Option.map_some, and_self, bTF, bFT]
        subst hK; clear hall; try simp only [Then]
        refine W.ret ?_
        simp only [Then, BlockQ, LoopQ, EndsR, Nat.reduceEqDiff, reduceIte]
        refine .inr ⟨trivial, trivial, ?_, ?_, ?_⟩
        · simp only [Env.get_put, Nat.reduceEqDiff, reduceIte]
        · simp only [Env.get_put, Nat.reduceEqDiff, reduceIte]
        · rintro ⟨k1, k2, k3, k4⟩
          have := k3 _ (getI_mem c2)
          omega
      · have n3 : decide (getI ws i < 1) = false := by simp [c3]
        simp (maxSteps := 2000000) (disch := first | assumption | simp [es, Env.sz_put]) only [WO_nil, List.getElem?_cons_zero, List.getElem?_cons_succ, WO_cons, WD_nil, WD_cons, List.nil_append, List.append_nil, List.cons_append, sel, nthO, wantedA_free, wantedA_by, putA_into, putA_no, execA, opv, opvs, ofConst, ofScalar, pureR, newR, skipR, builtinA, Env.get_put, binA, arith, Nat.reduceEqDiff, Nat.reduceAdd, reduceIte, bind2, Heap.bump0, isConst, beq_self_eq_true, Bool.false_eq_true, Bool.or_true, Bool.or_false, Bool.not_true, Bool.not_false, undefA, Option.map_some, and_self, bTF, bFT, e4, n3, ew]
        subst hK; clear hall; try simp only [Then]
        by_cases c4 : getI ws i > 256 - (ws.take i).sum
        · refine W.seqT (W.condT (by simp only [opv, ofConst, ofScalar, Env.get_put, Nat.reduceEqDiff, reduceIte, c4, decide_true]) ?_)
          refine W.seqR 0 rfl fun K all hK hall => ?_
          simp (maxSteps := 2000000) (disch := first | assumption | simp [es, Env.sz_put]) only [WO_nil, List.getElem?_cons_zero, List.getElem?_cons_succ, WO_cons, WD_nil, WD_cons, List.nil_append, List.append_nil, List.cons_append, sel, nthO, wantedA_free, wantedA_by, putA_into, putA_no, execA, opv, opvs, ofConst, ofScalar, pureR, newR, skipR, builtinA, Env.get_put, binA, arith, Nat.reduceEqDiff, Nat.reduceAdd, reduceIte, bind2, Heap.bump0, isConst, beq_self_eq_true, Bool.false_eq_true, Bool.or_true, Bool.or_false, Bool.not_true, Bool.not_false, undefA, Option.map_some, and_self, bTF, bFT]
          subst hK; clear hall; try simp only [Then]
          refine W.ret ?_
          simp only [Then, BlockQ, LoopQ, EndsR, Nat.reduceEqDiff, reduceIte]
          refine .inr ⟨trivial, trivial, ?_, ?_, ?_⟩
          · simp only [Env.get_put, Nat.reduceEqDiff, reduceIte]
          · simp only [Env.get_put, Nat.reduceEqDiff, reduceIte]
          · rintro ⟨k1, k2, k3, k4⟩
            have := sum_take_le k3 (i + 1)
            omega
        · refine W.seqT (W.condF (by simp only [opv, ofConst, ofScalar, Env.get_put, Nat.reduceEqDiff, reduceIte, c4, decide_false]) ?_)
          refine W.skip ?_
          simp only [Then]
          have ew2 : IntKind.i64.wrap ((ws.take i).sum + getI ws i) = (ws.take (i + 1)).sum := by rw [wrap_small (by omega) (by omega), hts]
          refine W.reg 0 rfl fun K all hK hall => ?_
          simp (maxSteps := 2000000) (disch := first | assumption | simp [es, Env.sz_put]) only [WO_nil, List.getElem?_cons_zero, List.getElem?_cons_succ, WO_cons, WD_nil, WD_cons, List.nil_append, List.append_nil, List.cons_append, sel, nthO, wantedA_free, wantedA_by, putA_into, putA_no, execA, opv, opvs, ofConst, ofScalar, pureR, newR, skipR, builtinA, Env.get_put, binA, arith, Nat.reduceEqDiff, Nat.reduceAdd, reduceIte, bind2, Heap.bump0, isConst, beq_self_eq_true, Bool.false_eq_true, Bool.or_true, Bool.or_false, Bool.not_true, Bool.not_false, undefA, Option.map_some, and_self, bTF, bFT, e4, ew2]
          subst hK; clear hall; try simp only [Then]
          simp only [Then, BlockQ, LoopQ, EndsR, Nat.reduceEqDiff, reduceIte]
          refine W.reg 0 rfl fun K all hK hall => ?_
          simp (maxSteps := 2000000) (disch := first | assumption | simp [es, Env.sz_put]) only [WO_nil, List.getElem?_cons_zero, List.getElem?_cons_succ, WO_cons, WD_nil, WD_cons, List.nil_append, List.append_nil, List.cons_append, sel, nthO, wantedA_free, wantedA_by, putA_into, putA_no, execA, opv, opvs, ofConst, ofScalar, pureR, newR, skipR, builtinA, Env.get_put, binA, arith, Nat.reduceEqDiff, Nat.reduceAdd, reduceIte, bind2, Heap.bump0, isConst, beq_self_eq_true, Bool.false_eq_true, Bool.or_true, Bool.or_false, Bool.not_true, Bool.not_false, undefA, Option.map_some, and_self, bTF, bFT, e15]
          subst hK; clear hall; try simp only [Then]
          simp only [Then, BlockQ, LoopQ, EndsR, Nat.reduceEqDiff, reduceIte]
          refine ⟨ws.length - (i + 1), by omega, i + 1, rfl, by omega, trivial, ?_, ?_, ?_, ?_, ?_, ?_, ?_, ?_, ?_⟩
          · simp only [Env.sz_put, es]
          · simp only [Env.get_put, Nat.reduceEqDiff, reduceIte, e0]
          · simp only [Env.get_put, Nat.reduceEqDiff, reduceIte]
          · simp only [Env.get_put, Nat.reduceEqDiff, reduceIte, e13]
          · simp only [Env.get_put, Nat.reduceEqDiff, reduceIte, e14]
          · simp only [Env.get_put, Nat.reduceEqDiff, reduceIte]
            rw [wrap_small (by omega) (by omega)]; simp
          · intro w hw
            rw [List.take_succ_eq_append_getElem c2, List.mem_append] at hw
            rcases hw with hw | hw
            · exact hp w hw
            · simp only [List.mem_singleton] at hw; subst hw; rw [getI_of c2] at c3; omega
          · omega
          · omega
    · have c2' : ¬ (i : Int) < (ws.length : Int) := by omega
      have ht : ws.take i = ws := List.take_of_length_le (by omega)
      rw [ht] at hp hs e4
      refine W.seqT (W.condF (by simp only [opv, ofConst, ofScalar, Env.get_put, Nat.reduceEqDiff, reduceIte, c2', decide_false]) ?_)
      refine W.exit ?_
      simp only [Then, BlockQ, LoopQ, EndsR, Nat.reduceEqDiff, reduceIte]
      refine .inl ⟨trivial, trivial, ?_, ?_, ?_, hp, hs⟩
      · simp only [Env.sz_put, es]
      · simp only [Env.get_put, Nat.reduceEqDiff, reduceIte, e0]
      · simp only [Env.get_put, Nat.reduceEqDiff, reduceIte, e4]
  case refine_11 =>
    clear e0 es e
    rintro o ⟨e, h1⟩ (⟨rfl, hh, es, e0, e4, hp, hs⟩ | ⟨rfl, hh, e2, e3, hno⟩)
    · dsimp only at hh es e0 e4
      subst hh
      simp only [Then]
      have hsm := ha.small
      refine W.seqA ?_
      refine W.seqR 0 rfl fun K all hK hall => ?_
      have g3 : (all[3]?).bind (·.dst) = some 34 := by subst hall; rfl
      by_cases c1 : ws = []
      · subst c1
        have n1 : ((([] : List Int).length : Int) == 0) = true := rfl
        simp (maxSteps := 2000000) (disch := first | assumption | simp [es, Env.sz_put]) only [WO_nil, List.getElem?_cons_zero, List.getElem?_cons_succ, WO_cons, WD_nil, WD_cons, List.nil_append, List.append_nil, List.cons_append, sel, nthO, wantedA_free, wantedA_by, putA_into, putA_no, execA, opv, opvs, ofConst, ofScalar, pureR, newR, skipR, builtinA, Env.get_put, binA, arith, Nat.reduceEqDiff, Nat.reduceAdd, reduceIte, bind2, Heap.bump0, isConst, beq_self_eq_true, Bool.false_eq_true, Bool.or_true, Bool.or_false, Bool.not_true, Bool.not_false, undefA, Option.map_some, and_self, bTF, bFT, e0, hla, n1]
        subst hK; clear hall; try simp only [Then]
        refine W.seqT (W.condT (by simp only [opv, ofConst, ofScalar, Env.get_put, Nat.reduceEqDiff, reduceIte, n1]) ?_)
        refine W.seqR 0 rfl fun K all hK hall => ?_
        simp (maxSteps := 2000000) (disch := first | assumption | simp [es, Env.sz_put]) only [WO_nil, List.getElem?_cons_zero, List.getElem?_cons_succ, WO_cons, WD_nil, WD_cons, List.nil_append, List.append_nil, List.cons_append, sel, nthO, wantedA_free, wantedA_by, putA_into, putA_no, execA, opv, opvs, ofConst, ofScalar, pureR, newR, skipR, builtinA, Env.get_put, binA, arith, Nat.reduceEqDiff, Nat.reduceAdd, reduceIte, bind2, Heap.bump0, isConst, beq_self_eq_true, Bool.false_eq_true, Bool.or_true, Bool.or_false, Bool.not_true, Bool.not_false, undefA, Option.map_some, and_self, bTF, bFT]
        subst hK; clear hall; try simp only [Then]
        refine W.ret ?_
        simp only [Then, BlockQ, LoopQ, EndsR, Nat.reduceEqDiff, reduceIte]
        have hno : ¬ OkW [] := fun q => q.1 rfl
        refine ⟨_, rfl, .nils, ?_, Kp.refl h1, ?_⟩
        · simp only [oneOf, Env.get_put, Nat.reduceEqDiff, reduceIte]
          simp only [buildE, if_neg hno]
        · simp only [buildE, if_neg hno]; exact Own.nil _ _
      have n1 : ((ws.length : Int) == 0) = false := by have := List.length_pos_iff.mpr c1; simp; omega
      simp (maxSteps := 2000000) (disch := first | assumption | simp [es, Env.sz_put]) only [WO_nil, List.getElem?_cons_zero, List.getElem?_cons_succ, WO_cons, WD_nil, WD_cons, List.nil_append, List.append_nil, List.cons_append, sel, nthO, wantedA_free, wantedA_by, putA_into, putA_no, execA, opv, opvs, ofConst, ofScalar, pureR, newR, skipR, builtinA, Env.get_put, binA, arith, Nat.reduceEqDiff, Nat.reduceAdd, reduceIte, bind2, Heap.bump0, isConst, beq_self_eq_true, Bool.false_eq_true, Bool.or_true, Bool.or_false, Bool.not_true, Bool.not_false, undefA, Option.map_some, and_self, bTF, bFT, e0, hla, n1]
      subst hK; clear hall; try simp only [Then]
      by_cases c2 : (ws.length : Int) > 16
      · refine W.seqT (W.condT (by simp only [opv, ofConst, ofScalar, Env.get_put, Nat.reduceEqDiff, reduceIte, c2, decide_true]) ?_)
        refine W.seqR 0 rfl fun K all hK hall => ?_
        simp (maxSteps := 2000000) (disch := first | assumption | simp [es, Env.sz_put]) only [WO_nil, List.getElem?_cons_zero, List.getElem?_cons_succ, WO_cons, WD_nil, WD_cons, List.nil_append, List.append_nil, List.cons_append, sel, nthO, wantedA_free, wantedA_by, putA_into, putA_no, execA, opv, opvs, ofConst, ofScalar, pureR, newR, skipR, builtinA, Env.get_put, binA, arith, Nat.reduceEqDiff, Nat.reduceAdd, reduceIte, bind2, Heap.bump0, isConst, beq_self_eq_true, Bool.false_eq_true, Bool.or_true, Bool.or_false, Bool.not_true, Bool.not_false, undefA, Option.map_some, and_self, bTF, bFT]
        subst hK; clear hall; try simp only [Then]
        refine W.ret ?_
        simp only [Then, BlockQ, LoopQ, EndsR, Nat.reduceEqDiff, reduceIte]
        have hno : ¬ OkW ws := fun q => by have := q.2.1; omega
        refine ⟨_, rfl, .nils, ?_, Kp.refl h1, ?_⟩
        · simp only [oneOf, Env.get_put, Nat.reduceEqDiff, reduceIte]
          simp only [buildE, if_neg hno]
        · simp only [buildE, if_neg hno]; exact Own.nil _ _
      refine W.seqT (W.condF (by simp only [opv, ofConst, ofScalar, Env.get_put, Nat.reduceEqDiff, reduceIte, c2, decide_false]) ?_)
      refine W.skip ?_
      simp only [Then]
      have hok : OkW ws := ⟨c1, by omega, hp, hs⟩
      have hlen : 0 < ws.length := List.length_pos_iff.mpr c1
      have hs0 : 0 ≤ ws.sum := by have := sum_take_le hp 0; simpa using this
      have hw256 : Within 256 ws := fun i => by
        by_cases hi : i < ws.length
        · have h1 := hp _ (getI_mem hi)
          have h2 := sum_take_le hp (i + 1)
          have h3 := sum_take_succ ws i hi
          have h4 : 0 ≤ (ws.take i).sum := by
            have := sum_take_le (ws := ws.take i) (fun w hw => hp w (List.mem_of_mem_take hw)) 0
            simpa using this
          omega
        · rw [getI_out (by omega)]; omega
      refine W.seqR 5 rfl fun K all hK hall => ?_
      have g1 : makeSliceA Try.prog (h1.bump 5) (h1.next + 1 + 1) 22 (vi ws.length) (vi ws.length) = _ := make_ints _ _ _ hsm
      generalize hH : newA (newA (h1.bump 5) (h1.next + 1 + 1) (ints (List.replicate ws.length 0))) (h1.next + 1 + 1 + 1) [.nils] = H1
      have g2 : H1.get (h1.next + 1 + 1 + 1) = some (.cells [.nils] (.rw true) []) := by subst hH; unfold newA; rw [Heap.get_put, if_pos rfl]
      have g3 := store_cell (.slice (h1.next + 1 + 1) 0 ws.length ws.length true 1) g2 rfl rfl
      generalize hH2 : H1.put (h1.next + 1 + 1 + 1) (some (.cells [.slice (h1.next + 1 + 1) 0 ws.length ws.length true 1] (.rw true) [])) = H2 at g3
      simp (maxSteps := 2000000) (disch := first | assumption | simp [es, Env.sz_put]) only [WO_nil, List.getElem?_cons_zero, List.getElem?_cons_succ, WO_cons, WD_nil, WD_cons, List.nil_append, List.append_nil, List.cons_append, sel, nthO, wantedA_free, wantedA_by, putA_into, putA_no, execA, opv, opvs, ofConst, ofScalar, pureR, newR, skipR, builtinA, Env.get_put, binA, arith, Nat.reduceEqDiff, Nat.reduceAdd, reduceIte, bind2, Heap.bump0, isConst, beq_self_eq_true, Bool.false_eq_true, Bool.or_true, Bool.or_false, Bool.not_true, Bool.not_false, undefA, Option.map_some, and_self, bTF, bFT, e0, hla, g1, alloc22, hH, g3]
      subst hK; clear hall; try simp only [Then]
      have hnx : H2.next = h1.next + 5 := by subst hH2 hH; rfl
      have hB : H2.get (h1.next + 1 + 1) = some (.cells (ints (List.replicate ws.length 0)) (.rw true) []) := by
        subst hH2 hH; unfold newA; rw [Heap.get_put, if_neg (by omega), Heap.get_put, if_neg (by omega), Heap.get_put, if_pos rfl]
      have hC : H2.get (h1.next + 1 + 1 + 1) = some (.cells [.slice (h1.next + 1 + 1) 0 ws.length ws.length true 1] (.rw true) []) := by
        subst hH2 hH; unfold newA; rw [Heap.get_put, if_pos rfl]
      have hK2 : Kp h1 H2 := by
        subst hH2 hH
        exact (((Kp.bump h1 5).newA (by omega) _ _).newA (by omega) _ _).put (by omega) _
      have ha2 := ha.ext hK2
      clear g1 g2 g3 hH2 hH H1
      generalize hBn : h1.next + 1 + 1 = B at *
      generalize hCn : B + 1 = C at *
      have hBC : B ≠ C := by omega
      have hB1 : h1.next ≤ B := by omega
      have hC1 : h1.next ≤ C := by omega
      have hB2 : B < H2.next := by omega
      have hC2 : C < H2.next := by omega
      have hlo : h1.next ≤ H2.next := by omega
      clear hBn hCn hnx
      refine W.seqR 0 rfl fun K all hK hall => ?_
      simp (maxSteps := 2000000) (disch := first | assumption | simp [es, Env.sz_put]) only [WO_nil, List.getElem?_cons_zero, List.getElem?_cons_succ, WO_cons, WD_nil, WD_cons, List.nil_append, List.append_nil, List.cons_append, sel, nthO, wantedA_free, wantedA_by, putA_into, putA_no, execA, opv, opvs, ofConst, ofScalar, pureR, newR, skipR, builtinA, Env.get_put, binA, arith, Nat.reduceEqDiff, Nat.reduceAdd, reduceIte, bind2, Heap.bump0, isConst, beq_self_eq_true, Bool.false_eq_true, Bool.or_true, Bool.or_false, Bool.not_true, Bool.not_false, undefA, Option.map_some, and_self, bTF, bFT]
      subst hK; clear hall; try simp only [Then]
      refine W.seqR 0 rfl fun K all hK hall => ?_
      simp (maxSteps := 2000000) (disch := first | assumption | simp [es, Env.sz_put]) only [WO_nil, List.getElem?_cons_zero, List.getElem?_cons_succ, WO_cons, WD_nil, WD_cons, List.nil_append, List.append_nil, List.cons_append, sel, nthO, wantedA_free, wantedA_by, putA_into, putA_no, execA, opv, opvs, ofConst, ofScalar, pureR, newR, skipR, builtinA, Env.get_put, binA, arith, Nat.reduceEqDiff, Nat.reduceAdd, reduceIte, bind2, Heap.bump0, isConst, beq_self_eq_true, Bool.false_eq_true, Bool.or_true, Bool.or_false, Bool.not_true, Bool.not_false, undefA, Option.map_some, and_self, bTF, bFT]
      subst hK; clear hall; try simp only [Then]
      refine W.seqA ?_
      refine W.seqR 0 rfl fun K all hK hall => ?_
      simp (maxSteps := 2000000) (disch := first | assumption | simp [es, Env.sz_put]) only [WO_nil, List.getElem?_cons_zero, List.getElem?_cons_succ, WO_cons, WD_nil, WD_cons, List.nil_append, List.append_nil, List.cons_append, sel, nthO, wantedA_free, wantedA_by, putA_into, putA_no, execA, opv, opvs, ofConst, ofScalar, pureR, newR, skipR, builtinA, Env.get_put, binA, arith, Nat.reduceEqDiff, Nat.reduceAdd, reduceIte, bind2, Heap.bump0, isConst, beq_self_eq_true, Bool.false_eq_true, Bool.or_true, Bool.or_false, Bool.not_true, Bool.not_false, undefA, Option.map_some, and_self, bTF, bFT, e4]
      subst hK; clear hall; try simp only [Then]
      refine W.seqLoop (fun m s => ∃ (k : Nat) (c : AV), m = ws.sum.toNat - k ∧ k ≤ ws.sum.toNat ∧ Kp h1 s.heap ∧ H2.next ≤ s.heap.next ∧ Own H2.next s.heap c (ticksS ws.sum ws k).1 ∧ s.heap.get B = some (.cells (ints (ticksS ws.sum ws k).2) (.rw true) []) ∧ s.heap.get C = some (.cells [.slice B 0 ws.length ws.length true 1] (.rw true) []) ∧ s.env.sz = 76 ∧ s.env.get 0 = a ∧ s.env.get 4 = vi ws.sum ∧ s.env.get 7 = .ptr C 0 ∧ s.env.get 8 = .fn 17 [] [.ptr C 0] ∧ s.env.get 9 = c ∧ s.env.get 43 = vi ws.sum ∧ s.env.get 44 = vi k) ws.sum.toNat ⟨0, .nils, rfl, by omega, hK2, Nat.le_refl _, Own.nil _ _, hB, hC, ?_, ?_, ?_, ?_, ?_, ?_, ?_, ?_⟩ ?_
      · simp only [Env.sz_put, es]
      · simp only [Env.get_put, Nat.reduceEqDiff, reduceIte, e0]
      · simp only [Env.get_put, Nat.reduceEqDiff, reduceIte, e4]
      · simp only [Env.get_put, Nat.reduceEqDiff, reduceIte]
      · simp only [Env.get_put, Nat.reduceEqDiff, reduceIte]
      · simp only [Env.get_put, Nat.reduceEqDiff, reduceIte]
      · simp only [Env.get_put, Nat.reduceEqDiff, reduceIte]
      · simp only [Env.get_put, Nat.reduceEqDiff, reduceIte]; rfl
      · clear e0 e4 es e hB hC hK2 ha2
        rintro m ⟨e, h2⟩ ⟨k, c, rfl, hk, hK2, hN, hO, hB, hC, es, e0, e4, e7, e8, e9, e43, e44⟩
        dsimp only at hK2 hN hO hB hC es e0 e4 e7 e8 e9 e43 e44
        have ha2 := ha.ext hK2
        refine W.seqR 0 rfl fun K all hK hall => ?_
        simp (maxSteps := 2000000) (disch := first | assumption | simp [es, Env.sz_put]) only [WO_nil, List.getElem?_cons_zero, List.getElem?_cons_succ, WO_cons, WD_nil, WD_cons, List.nil_append, List.append_nil, List.cons_append, sel, nthO, wantedA_free, wantedA_by, putA_into, putA_no, execA, opv, opvs, ofConst, ofScalar, pureR, newR, skipR, builtinA, Env.get_put, binA, arith, Nat.reduceEqDiff, Nat.reduceAdd, reduceIte, bind2, Heap.bump0, isConst, beq_self_eq_true, Bool.false_eq_true, Bool.or_true, Bool.or_false, Bool.not_true, Bool.not_false, undefA, Option.map_some, and_self, bTF, bFT, e43, e44]
        subst hK; clear hall; try simp only [Then]
        by_cases c3 : (k : Int) < ws.sum
        · have hol := (ticksS_length ws.sum ws k).1
          have how := ticksS_within (ws := ws) ⟨hs0, hs⟩ hw256 k
          refine W.seqT (W.condT (by simp only [opv, ofConst, ofScalar, Env.get_put, Nat.reduceEqDiff, reduceIte, c3, decide_true]) ?_)
          refine W.skip ?_
          simp only [Then]
          refine W.seqT (W.blockT ?_)
          refine W.seqA ?_
          refine W.seqR 0 rfl fun K all hK hall => ?_
          simp (maxSteps := 2000000) (disch := first | assumption | simp [es, Env.sz_put]) only [WO_nil, List.getElem?_cons_zero, List.getElem?_cons_succ, WO_cons, WD_nil, WD_cons, List.nil_append, List.append_nil, List.cons_append, sel, nthO, wantedA_free, wantedA_by, putA_into, putA_no, execA, opv, opvs, ofConst, ofScalar, pureR, newR, skipR, builtinA, Env.get_put, binA, arith, Nat.reduceEqDiff, Nat.reduceAdd, reduceIte, bind2, Heap.bump0, isConst, beq_self_eq_true, Bool.false_eq_true, Bool.or_true, Bool.or_false, Bool.not_true, Bool.not_false, undefA, Option.map_some, and_self, bTF, bFT, e0, hla]
          subst hK; clear hall; try simp only [Then]
          generalize hoG : (ticksS ws.sum ws k).2 = o at *
          refine W.seqLoop (fun m s => ∃ (i : Nat) (o' : List Int), m = ws.length - i ∧ i ≤ ws.length ∧ o'.length = ws.length ∧ (∀ j, getI o' j = getI o j + if j < i then getI ws j else 0) ∧ Kp h1 s.heap ∧ s.heap.next = h2.next ∧ Own H2.next s.heap c (ticksS ws.sum ws k).1 ∧ s.heap.get B = some (.cells (ints o') (.rw true) []) ∧ s.heap.get C = some (.cells [.slice B 0 ws.length ws.length true 1] (.rw true) []) ∧ s.env.sz = 76 ∧ s.env.get 0 = a ∧ s.env.get 4 = vi ws.sum ∧ s.env.get 7 = .ptr C 0 ∧ s.env.get 8 = .fn 17 [] [.ptr C 0] ∧ s.env.get 9 = c ∧ s.env.get 43 = vi ws.sum ∧ s.env.get 44 = vi k ∧ s.env.get 46 = a ∧ s.env.get 47 = vi ws.length ∧ s.env.get 48 = vi i) ws.length ⟨0, o, rfl, by omega, hol, by simp, hK2, rfl, hO, hB, hC, ?_, ?_, ?_, ?_, ?_, ?_, ?_, ?_, ?_, ?_, ?_⟩ ?_
          · simp only [Env.sz_put, es]
          · simp only [Env.get_put, Nat.reduceEqDiff, reduceIte, e0]
          · simp only [Env.get_put, Nat.reduceEqDiff, reduceIte, e4]
          · simp only [Env.get_put, Nat.reduceEqDiff, reduceIte, e7]
          · simp only [Env.get_put, Nat.reduceEqDiff, reduceIte, e8]
          · simp only [Env.get_put, Nat.reduceEqDiff, reduceIte, e9]
          · simp only [Env.get_put, Nat.reduceEqDiff, reduceIte, e43]
          · simp only [Env.get_put, Nat.reduceEqDiff, reduceIte, e44]
          · simp only [Env.get_put, Nat.reduceEqDiff, reduceIte]
          · simp only [Env.get_put, Nat.reduceEqDiff, reduceIte]
          · simp only [Env.get_put, Nat.reduceEqDiff, reduceIte]; rfl
          · clear e0 e4 e7 e8 e9 e43 e44 es e hB hC hK2 ha2 hO
            rintro m ⟨e, h3⟩ ⟨i, o', rfl, hi, hol', hoj, hK2, hN3, hO, hB, hC, es, e0, e4, e7, e8, e9, e43, e44, e46, e47, e48⟩
            dsimp only at hK2 hN3 hO hB hC es e0 e4 e7 e8 e9 e43 e44 e46 e47 e48
            have ha2 := ha.ext hK2
            refine W.seqR 0 rfl fun K all hK hall => ?_
            simp (maxSteps := 2000000) (disch := first | assumption | simp [es, Env.sz_put]) only [WO_nil, List.getElem?_cons_zero, List.getElem?_cons_succ, WO_cons, WD_nil, WD_cons, List.nil_append, List.append_nil, List.cons_append, sel, nthO, wantedA_free, wantedA_by, putA_into, putA_no, execA, opv, opvs, ofConst, ofScalar, pureR, newR, skipR, builtinA, Env.get_put, binA, arith, Nat.reduceEqDiff, Nat.reduceAdd, reduceIte, bind2, Heap.bump0, isConst, beq_self_eq_true, Bool.false_eq_true, Bool.or_true, Bool.or_false, Bool.not_true, Bool.not_false, undefA, Option.map_some, and_self, bTF, bFT, e47, e48]
            subst hK; clear hall; try simp only [Then]
            by_cases c4 : i < ws.length
            · have c4' : (i : Int) < (ws.length : Int) := by omega
              obtain ⟨b1, o1, q1, q2⟩ := ha2.addr (i := (i : Int)) (by omega) c4'
              have q2 : loadA Try.prog h3 3 (.ptr b1 o1) = some (vi (getI ws i)) := by rw [q2, getI_of c4]; rfl
              have q3 := load_cell hC
              have q4 := addr_in B ws.length c4 true ws.length
              have q5 := load_in hB (i := i) (by omega)
              have hb1 := how i
              have hb2 := hw256 i
              have hgi : getI o' i = getI o i := by rw [hoj]; simp
              have q6 := store_in hB (i := i) (by omega) (getI o' i + getI ws i)
              have ew : IntKind.i64.wrap (getI o' i + getI ws i) = getI o' i + getI ws i := wrap_small (by omega) (by omega)
              refine W.seqT (W.condT (by simp only [opv, ofConst, ofScalar, Env.get_put, Nat.reduceEqDiff, reduceIte, c4', decide_true]) ?_)
              refine W.skip ?_
              simp only [Then]
              refine W.seqT (W.blockT ?_)
              refine W.seqR 0 rfl fun K all hK hall => ?_
              simp (maxSteps := 2000000) (disch := first | assumption | simp [es, Env.sz_put]) only [WO_nil, List.getElem?_cons_zero, List.getElem?_cons_succ, WO_cons, WD_nil, WD_cons, List.nil_append, List.append_nil, List.cons_append, sel, nthO, wantedA_free, wantedA_by, putA_into, putA_no, execA, opv, opvs, ofConst, ofScalar, pureR, newR, skipR, builtinA, Env.get_put, binA, arith, Nat.reduceEqDiff, Nat.reduceAdd, reduceIte, bind2, Heap.bump0, isConst, beq_self_eq_true, Bool.false_eq_true, Bool.or_true, Bool.or_false, Bool.not_true, Bool.not_false, undefA, Option.map_some, and_self, bTF, bFT, e46, e48, q1, q2]
              subst hK; clear hall; try simp only [Then]
              refine W.reg 0 rfl fun K all hK hall => ?_
              simp (maxSteps := 2000000) (disch := first | assumption | simp [es, Env.sz_put]) only [WO_nil, List.getElem?_cons_zero, List.getElem?_cons_succ, WO_cons, WD_nil, WD_cons, List.nil_append, List.append_nil, List.cons_append, sel, nthO, wantedA_free, wantedA_by, putA_into, putA_no, execA, opv, opvs, ofConst, ofScalar, pureR, newR, skipR, builtinA, Env.get_put, binA, arith, Nat.reduceEqDiff, Nat.reduceAdd, reduceIte, bind2, Heap.bump0, isConst, beq_self_eq_true, Bool.false_eq_true, Bool.or_true, Bool.or_false, Bool.not_true, Bool.not_false, undefA, Option.map_some, and_self, bTF, bFT, e7, q3, q4, q5, ew, q6]
              subst hK; clear hall; try simp only [Then]
              simp only [Then, BlockQ, LoopQ, EndsR, Nat.reduceEqDiff, reduceIte]
              refine W.reg 0 rfl fun K all hK hall => ?_
              simp (maxSteps := 2000000) (disch := first | assumption | simp [es, Env.sz_put]) only [WO_nil, List.getElem?_cons_zero, List.getElem?_cons_succ, WO_cons, WD_nil, WD_cons, List.nil_append, List.append_nil, List.cons_append, sel, nthO, wantedA_free, wantedA_by, putA_into, putA_no, execA, opv, opvs, ofConst, ofScalar, pureR, newR, skipR, builtinA, Env.get_put, binA, arith, Nat.reduceEqDiff, Nat.reduceAdd, reduceIte, bind2, Heap.bump0, isConst, beq_self_eq_true, Bool.false_eq_true, Bool.or_true, Bool.or_false, Bool.not_true, Bool.not_false, undefA, Option.map_some, and_self, bTF, bFT, e48]
              subst hK; clear hall; try simp only [Then]
              simp only [Then, BlockQ, LoopQ, EndsR, Nat.reduceEqDiff, reduceIte]
              refine ⟨ws.length - (i + 1), by omega, i + 1, o'.set i (getI o' i + getI ws i), rfl, by omega, by simp [hol'], ?_, ?_, ?_, ?_, ?_, ?_, ?_, ?_, ?_, ?_, ?_, ?_, ?_, ?_, ?_, ?_, ?_⟩
              · intro j
                rw [getI_set]
                by_cases hj : i = j
                · subst hj
                  rw [if_pos ⟨rfl, by omega⟩, hgi, if_pos (by omega)]
                · rw [if_neg (fun q => hj q.1), hoj]
                  by_cases hj2 : j < i
                  · rw [if_pos hj2, if_pos (by omega)]
                  · rw [if_neg hj2, if_neg (by omega)]
              · exact hK2.put hB1 _
              · exact hN3
              · exact hO.put_low hB2 _
              · rw [Heap.get_put, if_pos rfl]
              · rw [Heap.get_put, if_neg hBC]; exact hC
              · simp only [Env.sz_put, es]
              · simp only [Env.get_put, Nat.reduceEqDiff, reduceIte, e0]
              · simp only [Env.get_put, Nat.reduceEqDiff, reduceIte, e4]
              · simp only [Env.get_put, Nat.reduceEqDiff, reduceIte, e7]
              · simp only [Env.get_put, Nat.reduceEqDiff, reduceIte, e8]
              · simp only [Env.get_put, Nat.reduceEqDiff, reduceIte, e9]
              · simp only [Env.get_put, Nat.reduceEqDiff, reduceIte, e43]
              · simp only [Env.get_put, Nat.reduceEqDiff, reduceIte, e44]
              · simp only [Env.get_put, Nat.reduceEqDiff, reduceIte, e46]
              · simp only [Env.get_put, Nat.reduceEqDiff, reduceIte, e47]
              · simp only [Env.get_put, Nat.reduceEqDiff, reduceIte]
                rw [wrap_small (by omega) (by omega)]; simp
            · have c4' : ¬ (i : Int) < (ws.length : Int) := by omega
              refine W.seqT (W.condF (by simp only [opv, ofConst, ofScalar, Env.get_put, Nat.reduceEqDiff, reduceIte, c4', decide_false]) ?_)
              refine W.exit ?_
              simp only [Then, BlockQ, LoopQ, EndsR, Nat.reduceEqDiff, reduceIte]
              have hoa : o' = addO o ws := by
                apply List.ext_getElem (by rw [hol', addO_length hol])
                intro j j1 j2
                rw [← getI_of j1, ← getI_of j2, hoj, addO_getI hol, if_pos (by omega)]
              clear hoj
              subst hoa
              have hbl := bestF_lt (addO o ws) ws.length hlen
              have hbo : (addO o ws).length = ws.length := hol'
              obtain ⟨h4, hk4, hrun⟩ := best_runs (h := h3) (C := C) (B := B) hbo hlen (by unfold rdA; rw [hC]) (by unfold rdA; rw [hB]) hsm
              refine W.seqR 0 rfl fun K all hK hall => ?_
              simp (maxSteps := 2000000) (disch := first | assumption | simp [es, Env.sz_put]) only [WO_nil, List.getElem?_cons_zero, List.getElem?_cons_succ, WO_cons, WD_nil, WD_cons, List.nil_append, List.append_nil, List.cons_append, sel, nthO, wantedA_free, wantedA_by, putA_into, putA_no, execA, opv, opvs, ofConst, ofScalar, pureR, newR, skipR, builtinA, Env.get_put, binA, arith, Nat.reduceEqDiff, Nat.reduceAdd, reduceIte, bind2, Heap.bump0, isConst, beq_self_eq_true, Bool.false_eq_true, Bool.or_true, Bool.or_false, Bool.not_true, Bool.not_false, undefA, Option.map_some, and_self, bTF, bFT, e8]
              refine CallK.into (hrun) (by simp [es, Env.sz_put]) ?_
              simp (maxSteps := 2000000) (disch := first | assumption | simp [es, Env.sz_put]) only [WO_nil, List.getElem?_cons_zero, List.getElem?_cons_succ, WO_cons, WD_nil, WD_cons, List.nil_append, List.append_nil, List.cons_append, sel, nthO, wantedA_free, wantedA_by, putA_into, putA_no, execA, opv, opvs, ofConst, ofScalar, pureR, newR, skipR, builtinA, Env.get_put, binA, arith, Nat.reduceEqDiff, Nat.reduceAdd, reduceIte, bind2, Heap.bump0, isConst, beq_self_eq_true, Bool.false_eq_true, Bool.or_true, Bool.or_false, Bool.not_true, Bool.not_false, undefA, Option.map_some, and_self, bTF, bFT]
              subst hK; clear hall; try simp only [Then]
              have hB4 : h4.get B = some (.cells (ints (addO o ws)) (.rw true) []) := by rw [hk4.2 B (by omega)]; exact hB
              have hC4 : h4.get C = some (.cells [.slice B 0 ws.length ws.length true 1] (.rw true) []) := by rw [hk4.2 C (by omega)]; exact hC
              have hO4 := hO.kp hk4
              have hN4 := hk4.1
              have q3 := load_cell hC4
              have q4 := addr_in B ws.length hbl true ws.length
              have q5 := load_in hB4 (i := bestF (addO o ws) ws.length) (by omega)
              have hg := how (bestF (addO o ws) ws.length)
              have hg2 := hw256 (bestF (addO o ws) ws.length)
              have hg3 := addO_getI hol (bestF (addO o ws) ws.length)
              have ew : IntKind.i64.wrap (getI (addO o ws) (bestF (addO o ws) ws.length) - ws.sum) = getI (addO o ws) (bestF (addO o ws) ws.length) - ws.sum := wrap_small (by omega) (by omega)
              have q6 := store_in hB4 (i := bestF (addO o ws) ws.length) (by omega) (getI (addO o ws) (bestF (addO o ws) ws.length) - ws.sum)
              generalize hH5 : h4.put B (some (.cells (ints ((addO o ws).set (bestF (addO o ws) ws.length) (getI (addO o ws) (bestF (addO o ws) ws.length) - ws.sum))) (.rw true) [])) = h5 at q6
              have hB5 : h5.get B = some (.cells (ints ((addO o ws).set (bestF (addO o ws) ws.length) (getI (addO o ws) (bestF (addO o ws) ws.length) - ws.sum))) (.rw true) []) := by subst hH5; rw [Heap.get_put, if_pos rfl]
              have hC5 : h5.get C = some (.cells [.slice B 0 ws.length ws.length true 1] (.rw true) []) := by subst hH5; rw [Heap.get_put, if_neg hBC]; exact hC4
              have hO5 : Own H2.next h5 c (ticksS ws.sum ws k).1 := by subst hH5; exact hO4.put_low hB2 _
              have hK5 : Kp h1 h5 := by subst hH5; exact (hK2.trans hk4).put hB1 _
              have hN5 : h5.next = h4.next := by subst hH5; rfl
              refine W.seqR 0 rfl fun K all hK hall => ?_
              simp (maxSteps := 2000000) (disch := first | assumption | simp [es, Env.sz_put]) only [WO_nil, List.getElem?_cons_zero, List.getElem?_cons_succ, WO_cons, WD_nil, WD_cons, List.nil_append, List.append_nil, List.cons_append, sel, nthO, wantedA_free, wantedA_by, putA_into, putA_no, execA, opv, opvs, ofConst, ofScalar, pureR, newR, skipR, builtinA, Env.get_put, binA, arith, Nat.reduceEqDiff, Nat.reduceAdd, reduceIte, bind2, Heap.bump0, isConst, beq_self_eq_true, Bool.false_eq_true, Bool.or_true, Bool.or_false, Bool.not_true, Bool.not_false, undefA, Option.map_some, and_self, bTF, bFT, e4, e7, q3, q4, q5, ew, q6]
              subst hK; clear hall; try simp only [Then]
              have hOl := (ticksS_length ws.sum ws k).2
              obtain ⟨c', h6, p1, p2, p3, p4⟩ := hO5.more (h0 := { h5 with next := H2.next }) ⟨by show H2.next ≤ h5.next; omega, fun _ _ => rfl⟩ (Nat.le_refl _) (by omega) (f1 := h5.next + 1 + 1) (f2 := h5.next + 1 + 1 + 1) (n := 5) (by omega) (by omega) (by omega) (bestF (addO o ws) ws.length : Nat) (by rw [hOl]; omega)
              refine W.reg 5 rfl fun K all hK hall => ?_
              simp (maxSteps := 2000000) (disch := first | assumption | simp [es, Env.sz_put]) only [WO_nil, List.getElem?_cons_zero, List.getElem?_cons_succ, WO_cons, WD_nil, WD_cons, List.nil_append, List.append_nil, List.cons_append, sel, nthO, wantedA_free, wantedA_by, putA_into, putA_no, execA, opv, opvs, ofConst, ofScalar, pureR, newR, skipR, builtinA, Env.get_put, binA, arith, Nat.reduceEqDiff, Nat.reduceAdd, reduceIte, bind2, Heap.bump0, isConst, beq_self_eq_true, Bool.false_eq_true, Bool.or_true, Bool.or_false, Bool.not_true, Bool.not_false, undefA, Option.map_some, and_self, bTF, bFT, e9, build1, parts, p1]
              subst hK; clear hall; try simp only [Then]
              simp only [Then, BlockQ, LoopQ, EndsR, Nat.reduceEqDiff, reduceIte]
              refine W.reg 0 rfl fun K all hK hall => ?_
              simp (maxSteps := 2000000) (disch := first | assumption | simp [es, Env.sz_put]) only [WO_nil, List.getElem?_cons_zero, List.getElem?_cons_succ, WO_cons, WD_nil, WD_cons, List.nil_append, List.append_nil, List.cons_append, sel, nthO, wantedA_free, wantedA_by, putA_into, putA_no, execA, opv, opvs, ofConst, ofScalar, pureR, newR, skipR, builtinA, Env.get_put, binA, arith, Nat.reduceEqDiff, Nat.reduceAdd, reduceIte, bind2, Heap.bump0, isConst, beq_self_eq_true, Bool.false_eq_true, Bool.or_true, Bool.or_false, Bool.not_true, Bool.not_false, undefA, Option.map_some, and_self, bTF, bFT, e44]
              subst hK; clear hall; try simp only [Then]
              simp only [Then, BlockQ, LoopQ, EndsR, Nat.reduceEqDiff, reduceIte]
              have htk : ticksS ws.sum ws (k + 1) = ((ticksS ws.sum ws k).1 ++ [((bestF (addO o ws) ws.length : Nat) : Int)], (addO o ws).set (bestF (addO o ws) ws.length) (getI (addO o ws) (bestF (addO o ws) ws.length) - ws.sum)) := by
                simp only [ticksS, tickS, hoG, hbo]
              have hB6 : h6.get B = h5.get B := p3.2 B hB2
              have hC6 : h6.get C = h5.get C := p3.2 C hC2
              refine ⟨ws.sum.toNat - (k + 1), by omega, k + 1, c', rfl, by omega, ?_, by omega, ?_, ?_, ?_, ?_, ?_, ?_, ?_, ?_, ?_, ?_, ?_⟩
              · refine ⟨by omega, fun b hb => ?_⟩
                rw [p3.2 b (by show b < H2.next; omega)]
                exact hK5.2 b hb
              · rw [htk]; exact p2
              · rw [htk, hB6]; exact hB5
              · rw [hC6]; exact hC5
              · simp only [Env.sz_put, es]
              · simp only [Env.get_put, Nat.reduceEqDiff, reduceIte, e0]
              · simp only [Env.get_put, Nat.reduceEqDiff, reduceIte, e4]
              · simp only [Env.get_put, Nat.reduceEqDiff, reduceIte, e7]
              · simp only [Env.get_put, Nat.reduceEqDiff, reduceIte, e8]
              · simp only [Env.get_put, Nat.reduceEqDiff, reduceIte]
              · simp only [Env.get_put, Nat.reduceEqDiff, reduceIte, e43]
              · simp only [Env.get_put, Nat.reduceEqDiff, reduceIte]
                rw [wrap_small (by omega) (by omega)]; simp
        · refine W.seqT (W.condF (by simp only [opv, ofConst, ofScalar, Env.get_put, Nat.reduceEqDiff, reduceIte, c3, decide_false]) ?_)
          refine W.exit ?_
          simp only [Then, BlockQ, LoopQ, EndsR, Nat.reduceEqDiff, reduceIte]
          refine W.seqR 0 rfl fun K all hK hall => ?_
          simp (maxSteps := 2000000) (disch := first | assumption | simp [es, Env.sz_put]) only [WO_nil, List.getElem?_cons_zero, List.getElem?_cons_succ, WO_cons, WD_nil, WD_cons, List.nil_append, List.append_nil, List.cons_append, sel, nthO, wantedA_free, wantedA_by, putA_into, putA_no, execA, opv, opvs, ofConst, ofScalar, pureR, newR, skipR, builtinA, Env.get_put, binA, arith, Nat.reduceEqDiff, Nat.reduceAdd, reduceIte, bind2, Heap.bump0, isConst, beq_self_eq_true, Bool.false_eq_true, Bool.or_true, Bool.or_false, Bool.not_true, Bool.not_false, undefA, Option.map_some, and_self, bTF, bFT, e9]
          subst hK; clear hall; try simp only [Then]
          refine W.ret ?_
          simp only [Then, BlockQ, LoopQ, EndsR, Nat.reduceEqDiff, reduceIte]
          have hkk : k = ws.sum.toNat := by omega
          subst hkk
          refine ⟨_, rfl, c, ?_, hK2, ?_⟩
          · simp only [oneOf, Env.get_put, Nat.reduceEqDiff, reduceIte]
            simp only [buildE, if_pos hok]
          · simp only [buildE, if_pos hok]
            rcases hO with ⟨r1, r2⟩ | ⟨b, anc, r1, r2, r3, r4, r5⟩
            · exact .inl ⟨r1, r2⟩
            · exact .inr ⟨b, anc, r1, r2, by omega, r4, r5⟩
    · dsimp only at hh e2 e3
      subst hh
      simp only [Then, BlockQ, LoopQ, EndsR, Nat.reduceEqDiff, reduceIte]
      refine ⟨_, rfl, .nils, ?_, Kp.refl h1, ?_⟩
      · simp only [oneOf, e2, e3, buildE, if_neg hno]
      · simp only [buildE, if_neg hno]; exact Own.nil _ _

end Go.Proofs.Ytmggkamdihgmiaa.AM
