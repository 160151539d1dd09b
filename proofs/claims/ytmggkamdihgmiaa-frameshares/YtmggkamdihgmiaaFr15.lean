/-
  The frame laws, part 15: FrameShares' walk.
-/
import Derived.Test.YtmggkamdihgmiaaFr7
import Derived.Test.YtmggkamdihgmiaaFr10
import Derived.Test.YtmggkamdihgmiaaFr13
import Derived.Test.YtmggkamdihgmiaaFr14
namespace Go.Proofs.Ytmggkamdihgmiaa.AM
open Go Go.Proofs
set_option linter.unusedVariables false
set_option linter.unusedSimpArgs false

theorem pick_range (x : Int) {n : Int} (h1 : 1 ≤ n) (h2 : n ≤ 1000000) : 0 ≤ pickS x n ∧ pickS x n < n := by
  have a1 := Int.emod_nonneg x (show n ≠ 0 by omega)
  have a2 := Int.emod_lt_of_pos x (show 0 < n by omega)
  have a3 : x.tmod n < n := by
    rcases Int.le_total 0 x with h | h
    · rw [Int.tmod_eq_emod_of_nonneg h]; exact a2
    · have e : x.tmod n = -((-x).tmod n) := by rw [Int.neg_tmod]; omega
      have b1 := Int.emod_nonneg (-x) (show n ≠ 0 by omega)
      rw [e, Int.tmod_eq_emod_of_nonneg (by omega)]
      omega
  have a4 : -n < x.tmod n := by
    rcases Int.le_total 0 x with h | h
    · rw [Int.tmod_eq_emod_of_nonneg h]; omega
    · have e : x.tmod n = -((-x).tmod n) := by rw [Int.neg_tmod]; omega
      have b2 := Int.emod_lt_of_pos (-x) (show 0 < n by omega)
      rw [e, Int.tmod_eq_emod_of_nonneg (by omega)]
      omega
  unfold pickS
  rw [if_neg (by omega)]
  split
  · rw [wrap_small (by omega) (by omega)]; omega
  · omega

/-- The weights that are taken. -/
def wtS (l : List Int) : List Int := l.map fun x => 1 + pickS x 16

theorem wtS_mem {l : List Int} {w : Int} (h : w ∈ wtS l) : 1 ≤ w ∧ w ≤ 16 := by
  obtain ⟨x, _, rfl⟩ := List.mem_map.mp h
  have := pick_range x (n := 16) (by omega) (by omega)
  omega

theorem wtS_take (l : List Int) {i : Nat} (hi : i < l.length) : wtS (l.take (i + 1)) = wtS (l.take i) ++ [1 + pickS l[i] 16] := by
  unfold wtS
  rw [List.take_succ_eq_append_getElem hi, List.map_append]
  rfl

theorem sum_le : ∀ {ws : List Int} {b : Int}, (∀ w, w ∈ ws → w ≤ b) → ws.sum ≤ ws.length * b
  | [], b, _ => by simp
  | a :: ws, b, h => by
    have := sum_le (ws := ws) (b := b) fun w hw => h w (List.mem_cons_of_mem _ hw)
    have := h a List.mem_cons_self
    rw [List.sum_cons, List.length_cons, Int.natCast_add, Int.add_mul]
    omega

theorem wtS_ok {l : List Int} (h0 : 0 < l.length) (h8 : l.length ≤ 8) : OkW (wtS l) ∧ OkW ((wtS l).map (2 * ·)) := by
  have hl : (wtS l).length = l.length := by simp [wtS]
  refine ⟨⟨?_, by omega, fun w hw => (wtS_mem hw).1, ?_⟩, ⟨?_, by simp [wtS]; omega, fun w hw => ?_, ?_⟩⟩
  · intro q; rw [q] at hl; simp at hl; omega
  · have := sum_le (ws := wtS l) (b := 16) fun w hw => (wtS_mem hw).2
    rw [hl] at this; omega
  · intro q; have := congrArg List.length q; simp [wtS] at this; subst this; simp at h0
  · obtain ⟨x, hx, rfl⟩ := List.mem_map.mp hw
    have := wtS_mem hx; omega
  · have := sum_le (ws := (wtS l).map (2 * ·)) (b := 32) fun w hw => by
      obtain ⟨x, hx, rfl⟩ := List.mem_map.mp hw
      have := wtS_mem hx; omega
    rw [List.length_map, hl] at this; omega

set_option maxHeartbeats 4000000 in
theorem shares_runs {h : Heap} {a : AV} {l : List Int} {u : Int} (ha : Holds h a l) : ∃ h', Runs Try.prog XA 4 [a, vi u] h (.ret (.bool true)) h' := by
  suffices hs : ∃ r h', Runs Try.prog XA 4 [a, vi u] h r h' ∧ r = .ret (.bool true) by
    obtain ⟨r, h', h1, rfl⟩ := hs
    exact ⟨h', h1⟩
  have hla := ha.len
  refine Runs.ends rfl Try.func4 rfl ?_
  generalize hE : Env.init [a, vi u] Try.f4.ntmps = e
  have e0 : e.get 0 = a := by subst hE; rfl
  have e1 : e.get 1 = vi u := by subst hE; rfl
  have es : e.sz = 166 := by subst hE; rfl
  clear hE
  refine W.seqR 0 rfl fun K all hK hall => ?_
  simp (maxSteps := 2000000) (disch := first | assumption | simp [es, Env.sz_put]) only [WO_nil, List.getElem?_cons_zero, List.getElem?_cons_succ, WO_cons, WD_nil, WD_cons, List.nil_append, List.append_nil, List.cons_append, sel, nthO, wantedA_free, wantedA_by, putA_into, putA_no, execA, opv, opvs, ofConst, ofScalar, pureR, newR, skipR, builtinA, Env.get_put, binA, arith, Nat.reduceEqDiff, Nat.reduceAdd, reduceIte, bind2, Heap.bump0, isConst, beq_self_eq_true, Bool.false_eq_true, Bool.or_true, Bool.or_false, Bool.not_true, Bool.not_false, undefA, Option.map_some, and_self, bTF, bFT]
  subst hK; clear hall; try simp only [Then]
  refine W.seqR 0 rfl fun K all hK hall => ?_
  simp (maxSteps := 2000000) (disch := first | assumption | simp [es, Env.sz_put]) only [WO_nil, List.getElem?_cons_zero, List.getElem?_cons_succ, WO_cons, WD_nil, WD_cons, List.nil_append, List.append_nil, List.cons_append, sel, nthO, wantedA_free, wantedA_by, putA_into, putA_no, execA, opv, opvs, ofConst, ofScalar, pureR, newR, skipR, builtinA, Env.get_put, binA, arith, Nat.reduceEqDiff, Nat.reduceAdd, reduceIte, bind2, Heap.bump0, isConst, beq_self_eq_true, Bool.false_eq_true, Bool.or_true, Bool.or_false, Bool.not_true, Bool.not_false, undefA, Option.map_some, and_self, bTF, bFT]
  subst hK; clear hall; try simp only [Then]
  refine W.seqA ?_
  refine W.seqR 0 rfl fun K all hK hall => ?_
  simp (maxSteps := 2000000) (disch := first | assumption | simp [es, Env.sz_put]) only [WO_nil, List.getElem?_cons_zero, List.getElem?_cons_succ, WO_cons, WD_nil, WD_cons, List.nil_append, List.append_nil, List.cons_append, sel, nthO, wantedA_free, wantedA_by, putA_into, putA_no, execA, opv, opvs, ofConst, ofScalar, pureR, newR, skipR, builtinA, Env.get_put, binA, arith, Nat.reduceEqDiff, Nat.reduceAdd, reduceIte, bind2, Heap.bump0, isConst, beq_self_eq_true, Bool.false_eq_true, Bool.or_true, Bool.or_false, Bool.not_true, Bool.not_false, undefA, Option.map_some, and_self, bTF, bFT]
  subst hK; clear hall; try simp only [Then]
  refine W.seqLoop (fun m s => ∃ (i : Nat) (c d : AV), m = l.length - i ∧ i ≤ l.length ∧ i ≤ 8 ∧ Own h.next s.heap c (wtS (l.take i)) ∧ Own h.next s.heap d ((wtS (l.take i)).map (2 * ·)) ∧ (∀ b, blk c = some b → blk d ≠ some b) ∧ Kp h s.heap ∧ s.env.sz = 166 ∧ s.env.get 0 = a ∧ s.env.get 1 = vi u ∧ s.env.get 5 = c ∧ s.env.get 6 = d ∧ s.env.get 7 = vi i) l.length ⟨0, .nils, .nils, rfl, by omega, by omega, Own.nil _ _, Own.nil _ _, fun b hb => (by cases hb), Kp.refl h, ?_, ?_, ?_, ?_, ?_, ?_⟩ ?_
  · simp only [Env.sz_put, es]
  · simp only [Env.get_put, Nat.reduceEqDiff, reduceIte, e0]
  · simp only [Env.get_put, Nat.reduceEqDiff, reduceIte, e1]
  · simp only [Env.get_put, Nat.reduceEqDiff, reduceIte]
  · simp only [Env.get_put, Nat.reduceEqDiff, reduceIte]
  · simp only [Env.get_put, Nat.reduceEqDiff, reduceIte]; rfl
  clear e0 e1 es e
  rintro m ⟨e, h1⟩ ⟨i, c, d, rfl, hi, hi8, hc, hd, hcd, kp, es, e0, e1, e5, e6, e7⟩
  dsimp only at hc hd kp es e0 e1 e5 e6 e7
  by_cases c1 : i < l.length ∧ i < 8
  · refine W.seqA ?_
    obtain ⟨c1, c2⟩ := c1
    have c1' : decide ((i : Int) < (l.length : Int)) = true := by simp; omega
    have c2' : decide ((i : Int) < 8) = true := by simp; omega
    refine W.seqR 0 rfl fun K all hK hall => ?_
    have g4 : (all[4]?).bind (·.dst) = some 21 := by subst hall; rfl
    simp (maxSteps := 2000000) (disch := first | assumption | simp [es, Env.sz_put]) only [WO_nil, List.getElem?_cons_zero, List.getElem?_cons_succ, WO_cons, WD_nil, WD_cons, List.nil_append, List.append_nil, List.cons_append, sel, nthO, wantedA_free, wantedA_by, putA_into, putA_no, execA, opv, opvs, ofConst, ofScalar, pureR, newR, skipR, builtinA, Env.get_put, binA, arith, Nat.reduceEqDiff, Nat.reduceAdd, reduceIte, bind2, Heap.bump0, isConst, beq_self_eq_true, Bool.false_eq_true, Bool.or_true, Bool.or_false, Bool.not_true, Bool.not_false, undefA, Option.map_some, and_self, bTF, bFT, e0, e7, hla, c1', c2']
    subst hK; clear hall; try simp only [Then]
    refine W.seqT (W.condT (by simp only [opv, Env.get_put, Nat.reduceEqDiff, reduceIte]) ?_)
    refine W.skip ?_
    simp only [Then]
    refine W.seqT (W.blockT ?_)
    have ha1 := ha.ext kp
    have haB := ha1.ext (Kp.bump h1 10)
    obtain ⟨b1, o1, q1, q2⟩ := haB.addr (i := (i : Int)) (by omega) (by omega)
    have q2 : loadA Try.prog (h1.bump 10) 3 (.ptr b1 o1) = some (vi (l[i])) := q2
    obtain ⟨h2, kp2, r2⟩ := pick_runs (h := h1.bump 10) (x := l[i]) (n := 16)
    have pr := pick_range l[i] (n := 16) (by omega) (by omega)
    have ew : IntKind.i64.wrap (1 + pickS l[i] 16) = 1 + pickS l[i] 16 := wrap_small (by omega) (by omega)
    have hlen1 : (wtS (l.take i)).length = i := by simp [wtS]; omega
    have hn2 : h1.next + 10 ≤ h2.next := kp2.1
    have kp12 : Kp h1 h2 := (Kp.bump h1 10).trans kp2
    have hc2 := hc.kp kp12
    obtain ⟨c', h3, p1, p2, p3, p4, p5⟩ := hc2.more2 (N := h1.next) (fun b hb => (hc.blk hb).2) kp.1 (f1 := h1.next + 1 + 1 + 1 + 1 + 1 + 1 + 1) (f2 := h1.next + 1 + 1 + 1 + 1 + 1 + 1 + 1 + 1) (by omega) (by omega) (by omega) (1 + pickS l[i] 16) (by omega)
    rw [← wtS_take l c1] at p2
    have hd3 : Own h.next h3 d ((wtS (l.take i)).map (2 * ·)) := hd.stay (by omega) fun b hb => by
      rw [p5 b (hd.blk hb).2 (fun q => hcd b q hb)]
      exact kp12.2 b (hd.blk hb).2
    have kp3 : Kp h h3 := ⟨by have := kp.1; omega, fun b hb => by
      rw [p5 b (Nat.lt_of_lt_of_le hb kp.1) (fun q => by have := (hc.blk q).1; omega), kp12.2 b (Nat.lt_of_lt_of_le hb kp.1), kp.2 b hb]⟩
    have hcd3 : ∀ b, blk c' = some b → blk d ≠ some b := fun b hb q => by
      rw [p4] at hb
      have := (hd.blk q).2
      cases hb
      omega
    refine W.seqR 10 rfl fun K all hK hall => ?_
    simp (maxSteps := 2000000) (disch := first | assumption | simp [es, Env.sz_put]) only [WO_nil, List.getElem?_cons_zero, List.getElem?_cons_succ, WO_cons, WD_nil, WD_cons, List.nil_append, List.append_nil, List.cons_append, sel, nthO, wantedA_free, wantedA_by, putA_into, putA_no, execA, opv, opvs, ofConst, ofScalar, pureR, newR, skipR, builtinA, Env.get_put, binA, arith, Nat.reduceEqDiff, Nat.reduceAdd, reduceIte, bind2, Heap.bump0, isConst, beq_self_eq_true, Bool.false_eq_true, Bool.or_true, Bool.or_false, Bool.not_true, Bool.not_false, undefA, Option.map_some, and_self, bTF, bFT, e0, e5, e7, q1, q2]
    refine CallK.into (r2) (by simp [es, Env.sz_put]) ?_
    simp (maxSteps := 2000000) (disch := first | assumption | simp [es, Env.sz_put]) only [WO_nil, List.getElem?_cons_zero, List.getElem?_cons_succ, WO_cons, WD_nil, WD_cons, List.nil_append, List.append_nil, List.cons_append, sel, nthO, wantedA_free, wantedA_by, putA_into, putA_no, execA, opv, opvs, ofConst, ofScalar, pureR, newR, skipR, builtinA, Env.get_put, binA, arith, Nat.reduceEqDiff, Nat.reduceAdd, reduceIte, bind2, Heap.bump0, isConst, beq_self_eq_true, Bool.false_eq_true, Bool.or_true, Bool.or_false, Bool.not_true, Bool.not_false, undefA, Option.map_some, and_self, bTF, bFT, e5, ew, build1, parts, p1]
    subst hK; clear hall; try simp only [Then]
    obtain ⟨b4, o4, q4, q5⟩ := (p2.holds.ext (Kp.bump h3 9)).addr (i := (i : Int)) (by omega) (by rw [wtS_take l c1]; simp [wtS]; omega)
    have q5 : loadA Try.prog (h3.bump 9) 3 (.ptr b4 o4) = some (vi (1 + pickS l[i] 16)) := by
      rw [q5]
      congr 2
      have : (wtS (l.take (i + 1)))[i]? = some (1 + pickS l[i] 16) := by
        rw [wtS_take l c1, List.getElem?_append_right (by omega), hlen1]; simp
      have e := (List.getElem?_eq_some_iff.mp this).2
      exact e
    have ew2 : IntKind.i64.wrap (2 * (1 + pickS l[i] 16)) = 2 * (1 + pickS l[i] 16) := wrap_small (by omega) (by omega)
    obtain ⟨d', h4, s1, s2, s3, s4, s5⟩ := (hd3.kp (Kp.bump h3 9)).more2 (N := h3.next) (fun b hb => (hd3.blk hb).2) kp3.1 (f1 := h3.next + 1 + 1 + 1 + 1 + 1 + 1) (f2 := h3.next + 1 + 1 + 1 + 1 + 1 + 1 + 1) (by omega) (by omega) (by show _ < h3.next + 9; omega) (2 * (1 + pickS l[i] 16)) (by simp; omega)
    have s2 : Own h.next h4 d' ((wtS (l.take (i + 1))).map (2 * ·)) := by
      rw [wtS_take l c1, List.map_append]; exact s2
    have hc4 : Own h.next h4 c' (wtS (l.take (i + 1))) := p2.stay (by rw [s3]; show h3.next ≤ h3.next + 9; omega) fun b hb => s5 b (p2.blk hb).2 (fun q => hcd3 b hb q)
    have kp4 : Kp h h4 := ⟨by have := kp3.1; rw [s3]; show h.next ≤ h3.next + 9; omega, fun b hb => by
      rw [s5 b (Nat.lt_of_lt_of_le hb kp3.1) (fun q => by have := (hd3.blk q).1; omega)]
      exact kp3.2 b hb⟩
    have hcd4 : ∀ b, blk c' = some b → blk d' ≠ some b := fun b hb q => by
      rw [s4] at q
      have := (p2.blk hb).2
      cases q
      omega
    refine W.reg 9 rfl fun K all hK hall => ?_
    simp (maxSteps := 2000000) (disch := first | assumption | simp [es, Env.sz_put]) only [WO_nil, List.getElem?_cons_zero, List.getElem?_cons_succ, WO_cons, WD_nil, WD_cons, List.nil_append, List.append_nil, List.cons_append, sel, nthO, wantedA_free, wantedA_by, putA_into, putA_no, execA, opv, opvs, ofConst, ofScalar, pureR, newR, skipR, builtinA, Env.get_put, binA, arith, Nat.reduceEqDiff, Nat.reduceAdd, reduceIte, bind2, Heap.bump0, isConst, beq_self_eq_true, Bool.false_eq_true, Bool.or_true, Bool.or_false, Bool.not_true, Bool.not_false, undefA, Option.map_some, and_self, bTF, bFT, e6, e7, q4, q5, ew2, build1, parts, s1]
    subst hK; clear hall; try simp only [Then]
    simp only [Then, BlockQ, LoopQ, EndsR, Nat.reduceEqDiff, reduceIte]
    have ewi : IntKind.i64.wrap ((i : Int) + 1) = ((i + 1 : Nat) : Int) := by
      rw [wrap_small (by omega) (by omega)]; simp
    refine W.reg 0 rfl fun K all hK hall => ?_
    simp (maxSteps := 2000000) (disch := first | assumption | simp [es, Env.sz_put]) only [WO_nil, List.getElem?_cons_zero, List.getElem?_cons_succ, WO_cons, WD_nil, WD_cons, List.nil_append, List.append_nil, List.cons_append, sel, nthO, wantedA_free, wantedA_by, putA_into, putA_no, execA, opv, opvs, ofConst, ofScalar, pureR, newR, skipR, builtinA, Env.get_put, binA, arith, Nat.reduceEqDiff, Nat.reduceAdd, reduceIte, bind2, Heap.bump0, isConst, beq_self_eq_true, Bool.false_eq_true, Bool.or_true, Bool.or_false, Bool.not_true, Bool.not_false, undefA, Option.map_some, and_self, bTF, bFT, e7, ewi]
    subst hK; clear hall; try simp only [Then]
    simp only [Then, BlockQ, LoopQ, EndsR, Nat.reduceEqDiff, reduceIte]
    refine ⟨l.length - (i + 1), by omega, i + 1, c', d', rfl, by omega, by omega, hc4, s2, hcd4, kp4, ?_, ?_, ?_, ?_, ?_, ?_⟩
    · simp only [Env.sz_put, es]
    · simp only [Env.get_put, Nat.reduceEqDiff, reduceIte, e0]
    · simp only [Env.get_put, Nat.reduceEqDiff, reduceIte, e1]
    · simp only [Env.get_put, Nat.reduceEqDiff, reduceIte]
    · simp only [Env.get_put, Nat.reduceEqDiff, reduceIte]
    · simp only [Env.get_put, Nat.reduceEqDiff, reduceIte]
  have hout : l.take i = l.take 8 := by
    rcases Nat.lt_or_ge i 8 with q | q
    · rw [List.take_of_length_le (by omega), List.take_of_length_le (by omega)]
    · have : i = 8 := by omega
      rw [this]
  refine W.seqM (fun o s => o = .exit 0 ∧ s.heap = h1 ∧ s.env.sz = 166 ∧ s.env.get 1 = vi u ∧ s.env.get 5 = c ∧ s.env.get 6 = d) ?_ ?_
  · by_cases c2 : i < l.length
    · have c1' : decide ((i : Int) < (l.length : Int)) = true := by simp; omega
      have c2' : decide ((i : Int) < 8) = false := by simp; omega
      refine W.seqR 0 rfl fun K all hK hall => ?_
      have g4 : (all[4]?).bind (·.dst) = some 21 := by subst hall; rfl
      simp (maxSteps := 2000000) (disch := first | assumption | simp [es, Env.sz_put]) only [WO_nil, List.getElem?_cons_zero, List.getElem?_cons_succ, WO_cons, WD_nil, WD_cons, List.nil_append, List.append_nil, List.cons_append, sel, nthO, wantedA_free, wantedA_by, putA_into, putA_no, execA, opv, opvs, ofConst, ofScalar, pureR, newR, skipR, builtinA, Env.get_put, binA, arith, Nat.reduceEqDiff, Nat.reduceAdd, reduceIte, bind2, Heap.bump0, isConst, beq_self_eq_true, Bool.false_eq_true, Bool.or_true, Bool.or_false, Bool.not_true, Bool.not_false, undefA, Option.map_some, and_self, bTF, bFT, e0, e7, hla, c1', c2']
      subst hK; clear hall; try simp only [Then]
      refine W.condF (by simp only [opv, Env.get_put, Nat.reduceEqDiff, reduceIte]) ?_
      refine W.exit ?_
      refine ⟨rfl, rfl, ?_, ?_, ?_, ?_⟩
      · simp only [Env.sz_put, es]
      · simp only [Env.get_put, Nat.reduceEqDiff, reduceIte, e1]
      · simp only [Env.get_put, Nat.reduceEqDiff, reduceIte, e5]
      · simp only [Env.get_put, Nat.reduceEqDiff, reduceIte, e6]
    · have c1' : decide ((i : Int) < (l.length : Int)) = false := by simp; omega
      refine W.seqR 0 rfl fun K all hK hall => ?_
      have g4 : (all[4]?).bind (·.dst) = some 21 := by subst hall; rfl
      simp (maxSteps := 2000000) (disch := first | assumption | simp [es, Env.sz_put]) only [WO_nil, List.getElem?_cons_zero, List.getElem?_cons_succ, WO_cons, WD_nil, WD_cons, List.nil_append, List.append_nil, List.cons_append, sel, nthO, wantedA_free, wantedA_by, putA_into, putA_no, execA, opv, opvs, ofConst, ofScalar, pureR, newR, skipR, builtinA, Env.get_put, binA, arith, Nat.reduceEqDiff, Nat.reduceAdd, reduceIte, bind2, Heap.bump0, isConst, beq_self_eq_true, Bool.false_eq_true, Bool.or_true, Bool.or_false, Bool.not_true, Bool.not_false, undefA, Option.map_some, and_self, bTF, bFT, e0, e7, hla, c1']
      subst hK; clear hall; try simp only [Then]
      refine W.condF (by simp only [opv, Env.get_put, Nat.reduceEqDiff, reduceIte]) ?_
      refine W.exit ?_
      refine ⟨rfl, rfl, ?_, ?_, ?_, ?_⟩
      · simp only [Env.sz_put, es]
      · simp only [Env.get_put, Nat.reduceEqDiff, reduceIte, e1]
      · simp only [Env.get_put, Nat.reduceEqDiff, reduceIte, e5]
      · simp only [Env.get_put, Nat.reduceEqDiff, reduceIte, e6]
  clear e0 e1 e5 e6 e7 es e c1 ha hla
  rintro o ⟨e, h2⟩ ⟨rfl, hh, es, e1, e5, e6⟩
  dsimp only at hh es e1 e5 e6
  subst hh
  simp only [Then, BlockQ, LoopQ, EndsR, Nat.reduceEqDiff, reduceIte]
  rw [hout] at hc hd
  replace hc := hc.holds
  replace hd := hd.holds
  have hlen8 : (l.take 8).length ≤ 8 := by rw [List.length_take]; omega
  clear hout hi hi8 hcd kp
  generalize l.take 8 = l8 at hc hd hlen8
  have hwm : ∀ w, w ∈ wtS l8 → 1 ≤ w ∧ w ≤ 16 := fun w hw => wtS_mem hw
  have hok : 0 < l8.length → OkW (wtS l8) ∧ OkW ((wtS l8).map (2 * ·)) := fun q => wtS_ok q hlen8
  have hwl : (wtS l8).length = l8.length := by simp [wtS]
  generalize wtS l8 = ws at hc hd hwm hok hwl
  obtain ⟨f, h3, kp3, k4, k5⟩ := build_runs hc (fun w hw => by have := hwm w hw; omega)
  have hc3 := hc.ext kp3
  have hd3 := hd.ext kp3
  refine W.seqR 0 rfl fun K all hK hall => ?_
  simp (maxSteps := 2000000) (disch := first | assumption | simp [es, Env.sz_put]) only [WO_nil, List.getElem?_cons_zero, List.getElem?_cons_succ, WO_cons, WD_nil, WD_cons, List.nil_append, List.append_nil, List.cons_append, sel, nthO, wantedA_free, wantedA_by, putA_into, putA_no, execA, opv, opvs, ofConst, ofScalar, pureR, newR, skipR, builtinA, Env.get_put, binA, arith, Nat.reduceEqDiff, Nat.reduceAdd, reduceIte, bind2, Heap.bump0, isConst, beq_self_eq_true, Bool.false_eq_true, Bool.or_true, Bool.or_false, Bool.not_true, Bool.not_false, undefA, Option.map_some, and_self, bTF, bFT, e5]
  refine CallK.into (k5) (by simp [es, Env.sz_put]) ?_
  simp (maxSteps := 2000000) (disch := first | assumption | simp [es, Env.sz_put]) only [WO_nil, List.getElem?_cons_zero, List.getElem?_cons_succ, WO_cons, WD_nil, WD_cons, List.nil_append, List.append_nil, List.cons_append, sel, nthO, wantedA_free, wantedA_by, putA_into, putA_no, execA, opv, opvs, ofConst, ofScalar, pureR, newR, skipR, builtinA, Env.get_put, binA, arith, Nat.reduceEqDiff, Nat.reduceAdd, reduceIte, bind2, Heap.bump0, isConst, beq_self_eq_true, Bool.false_eq_true, Bool.or_true, Bool.or_false, Bool.not_true, Bool.not_false, undefA, Option.map_some, and_self, bTF, bFT]
  subst hK; clear hall; try simp only [Then]
  have hlc := hc3.len
  refine W.seqA ?_
  by_cases z : ws = []
  · subst z
    have hb : buildE [] = (143, []) := by decide +kernel
    rw [hb] at k4 k5
    have hlf := k4.holds.len
    have hlc : ∀ h', lenA Try.prog h' 22 c = some (vi 0) := hlc
    have hlf : ∀ h', lenA Try.prog h' 22 f = some (vi 0) := hlf
    have z0 : ((0 : Int) == 0) = true := rfl
    have z1 : ((143 : Int) == 143) = true := rfl
    refine W.seqR 0 rfl fun K all hK hall => ?_
    simp (maxSteps := 2000000) (disch := first | assumption | simp [es, Env.sz_put]) only [WO_nil, List.getElem?_cons_zero, List.getElem?_cons_succ, WO_cons, WD_nil, WD_cons, List.nil_append, List.append_nil, List.cons_append, sel, nthO, wantedA_free, wantedA_by, putA_into, putA_no, execA, opv, opvs, ofConst, ofScalar, pureR, newR, skipR, builtinA, Env.get_put, binA, arith, Nat.reduceEqDiff, Nat.reduceAdd, reduceIte, bind2, Heap.bump0, isConst, beq_self_eq_true, Bool.false_eq_true, Bool.or_true, Bool.or_false, Bool.not_true, Bool.not_false, undefA, Option.map_some, and_self, bTF, bFT, e5, hlc, hb, z0]
    subst hK; clear hall; try simp only [Then]
    refine W.seqT (W.condT (by simp only [opv, Env.get_put, Nat.reduceEqDiff, reduceIte]) ?_)
    refine W.seqR 0 rfl fun K all hK hall => ?_
    have g2 : (all[2]?).bind (·.dst) = some 54 := by subst hall; rfl
    have g7 : (all[7]?).bind (·.dst) = some 59 := by subst hall; rfl
    simp (maxSteps := 2000000) (disch := first | assumption | simp [es, Env.sz_put]) only [WO_nil, List.getElem?_cons_zero, List.getElem?_cons_succ, WO_cons, WD_nil, WD_cons, List.nil_append, List.append_nil, List.cons_append, sel, nthO, wantedA_free, wantedA_by, putA_into, putA_no, execA, opv, opvs, ofConst, ofScalar, pureR, newR, skipR, builtinA, Env.get_put, binA, arith, Nat.reduceEqDiff, Nat.reduceAdd, reduceIte, bind2, Heap.bump0, isConst, beq_self_eq_true, Bool.false_eq_true, Bool.or_true, Bool.or_false, Bool.not_true, Bool.not_false, undefA, Option.map_some, and_self, bTF, bFT, hlf, z0, z1]
    refine CallK.into (awake_in _) (by simp [es, Env.sz_put]) ?_
    simp (maxSteps := 2000000) (disch := first | assumption | simp [es, Env.sz_put]) only [WO_nil, List.getElem?_cons_zero, List.getElem?_cons_succ, WO_cons, WD_nil, WD_cons, List.nil_append, List.append_nil, List.cons_append, sel, nthO, wantedA_free, wantedA_by, putA_into, putA_no, execA, opv, opvs, ofConst, ofScalar, pureR, newR, skipR, builtinA, Env.get_put, binA, arith, Nat.reduceEqDiff, Nat.reduceAdd, reduceIte, bind2, Heap.bump0, isConst, beq_self_eq_true, Bool.false_eq_true, Bool.or_true, Bool.or_false, Bool.not_true, Bool.not_false, undefA, Option.map_some, and_self, bTF, bFT]
    subst hK; clear hall; try simp only [Then]
    refine W.ret ?_
    simp only [Then, BlockQ, LoopQ, EndsR, Nat.reduceEqDiff, reduceIte]
    refine ⟨_, rfl, ?_⟩
    simp only [oneOf, Env.get_put, Nat.reduceEqDiff, reduceIte]
  have hpos : 0 < ws.length := List.length_pos_iff.mpr z
  obtain ⟨ok1, ok2⟩ := hok (by omega)
  have hb1 : buildE ws = (0, (ticksS ws.sum ws ws.sum.toNat).1) := by unfold buildE; rw [if_pos ok1]
  have hb2 := twice_frame ok1 ok2
  have hsp := sum_pos z (fun w hw => (hwm w hw).1)
  have hin : ∀ x, x ∈ (ticksS ws.sum ws ws.sum.toNat).1 → 0 ≤ x ∧ x < (ws.length : Int) := fun x hx => ticks_in ws.sum z _ x hx
  have hcount : ∀ i, i < ws.length → (((ticksS ws.sum ws ws.sum.toNat).1.count (i : Int) : Nat) : Int) = getI ws i := fun i hi => round_count z (fun w hw => (hwm w hw).1) hi
  have hfl : (ticksS ws.sum ws ws.sum.toNat).1.length = ws.sum.toNat := (ticksS_length ws.sum ws ws.sum.toNat).2
  have hs256 : ws.sum ≤ 256 := ok1.2.2.2
  rw [hb1] at hb2 k4
  simp only [hb1] at k5 hb2
  generalize (ticksS ws.sum ws ws.sum.toNat).1 = fr at hb2 k4 hin hcount hfl k5
  have hfr : fr ≠ [] := by intro q; subst q; simp at hfl; omega
  have hf3 : Holds h3 f fr := k4.holds
  have hlf := hf3.len
  clear k4
  have z0 : ((ws.length : Int) == 0) = false := by simp; omega
  refine W.seqR 0 rfl fun K all hK hall => ?_
  simp (maxSteps := 2000000) (disch := first | assumption | simp [es, Env.sz_put]) only [WO_nil, List.getElem?_cons_zero, List.getElem?_cons_succ, WO_cons, WD_nil, WD_cons, List.nil_append, List.append_nil, List.cons_append, sel, nthO, wantedA_free, wantedA_by, putA_into, putA_no, execA, opv, opvs, ofConst, ofScalar, pureR, newR, skipR, builtinA, Env.get_put, binA, arith, Nat.reduceEqDiff, Nat.reduceAdd, reduceIte, bind2, Heap.bump0, isConst, beq_self_eq_true, Bool.false_eq_true, Bool.or_true, Bool.or_false, Bool.not_true, Bool.not_false, undefA, Option.map_some, and_self, bTF, bFT, e5, hlc, hb1, z0]
  subst hK; clear hall; try simp only [Then]
  refine W.seqT (W.condF (by simp only [opv, Env.get_put, Nat.reduceEqDiff, reduceIte]) ?_)
  refine W.skip ?_
  simp only [Then]
  obtain ⟨h4, kp4, r4⟩ := pick_runs (h := h3) (x := u) (n := 100000)
  have pr := pick_range u (n := 100000) (by omega) (by omega)
  generalize pickS u 100000 = t at pr r4
  have hc4 := hc3.ext kp4
  have hd4 := hd3.ext kp4
  have hf4 := hf3.ext kp4
  clear hc3 hd3 hf3 kp3 kp4 k5 hc hd
  refine W.seqR 0 rfl fun K all hK hall => ?_
  simp (maxSteps := 2000000) (disch := first | assumption | simp [es, Env.sz_put]) only [WO_nil, List.getElem?_cons_zero, List.getElem?_cons_succ, WO_cons, WD_nil, WD_cons, List.nil_append, List.append_nil, List.cons_append, sel, nthO, wantedA_free, wantedA_by, putA_into, putA_no, execA, opv, opvs, ofConst, ofScalar, pureR, newR, skipR, builtinA, Env.get_put, binA, arith, Nat.reduceEqDiff, Nat.reduceAdd, reduceIte, bind2, Heap.bump0, isConst, beq_self_eq_true, Bool.false_eq_true, Bool.or_true, Bool.or_false, Bool.not_true, Bool.not_false, undefA, Option.map_some, and_self, bTF, bFT, e1]
  refine CallK.into (r4) (by simp [es, Env.sz_put]) ?_
  simp (maxSteps := 2000000) (disch := first | assumption | simp [es, Env.sz_put]) only [WO_nil, List.getElem?_cons_zero, List.getElem?_cons_succ, WO_cons, WD_nil, WD_cons, List.nil_append, List.append_nil, List.cons_append, sel, nthO, wantedA_free, wantedA_by, putA_into, putA_no, execA, opv, opvs, ofConst, ofScalar, pureR, newR, skipR, builtinA, Env.get_put, binA, arith, Nat.reduceEqDiff, Nat.reduceAdd, reduceIte, bind2, Heap.bump0, isConst, beq_self_eq_true, Bool.false_eq_true, Bool.or_true, Bool.or_false, Bool.not_true, Bool.not_false, undefA, Option.map_some, and_self, bTF, bFT]
  subst hK; clear hall; try simp only [Then]
  have hsm := hc4.small
  refine W.seqR 4 rfl fun K all hK hall => ?_
  simp (maxSteps := 2000000) (disch := first | assumption | simp [es, Env.sz_put]) only [WO_nil, List.getElem?_cons_zero, List.getElem?_cons_succ, WO_cons, WD_nil, WD_cons, List.nil_append, List.append_nil, List.cons_append, sel, nthO, wantedA_free, wantedA_by, putA_into, putA_no, execA, opv, opvs, ofConst, ofScalar, pureR, newR, skipR, builtinA, Env.get_put, binA, arith, Nat.reduceEqDiff, Nat.reduceAdd, reduceIte, bind2, Heap.bump0, isConst, beq_self_eq_true, Bool.false_eq_true, Bool.or_true, Bool.or_false, Bool.not_true, Bool.not_false, undefA, Option.map_some, and_self, bTF, bFT, e5, hlc, make_ints _ _ _ hsm]
  subst hK; clear hall; try simp only [Then]
  generalize hB : h4.next + 1 + 1 = B
  have hc5 := hc4.ext (Kp.bump h4 4)
  have kp5 : Kp h4 (newA (h4.bump 4) B (ints (List.replicate ws.length 0))) := (Kp.bump h4 4).newA (by omega) _ _
  have g5 : (newA (h4.bump 4) B (ints (List.replicate ws.length 0))).get B = some (.cells (ints (cntS fr t ws.length 0)) (.rw true) []) := by unfold newA; rw [Heap.get_put, if_pos rfl]; rfl
  have hn5 : B < (newA (h4.bump 4) B (ints (List.replicate ws.length 0))).next := by show B < h4.next + 4; omega
  have hB4 : h4.next ≤ B := by omega
  clear hB
  generalize newA (h4.bump 4) B (ints (List.replicate ws.length 0)) = h5 at kp5 g5 hn5
  refine W.seqA ?_
  refine W.seqR 0 rfl fun K all hK hall => ?_
  simp (maxSteps := 2000000) (disch := first | assumption | simp [es, Env.sz_put]) only [WO_nil, List.getElem?_cons_zero, List.getElem?_cons_succ, WO_cons, WD_nil, WD_cons, List.nil_append, List.append_nil, List.cons_append, sel, nthO, wantedA_free, wantedA_by, putA_into, putA_no, execA, opv, opvs, ofConst, ofScalar, pureR, newR, skipR, builtinA, Env.get_put, binA, arith, Nat.reduceEqDiff, Nat.reduceAdd, reduceIte, bind2, Heap.bump0, isConst, beq_self_eq_true, Bool.false_eq_true, Bool.or_true, Bool.or_false, Bool.not_true, Bool.not_false, undefA, Option.map_some, and_self, bTF, bFT, hlf]
  subst hK; clear hall; try simp only [Then]
  have hfl256 : fr.length ≤ 256 := by omega
  have hn8 : ws.length ≤ 8 := by omega
  refine W.seqLoop (fun m s => ∃ (j : Nat), m = fr.length - j ∧ j ≤ fr.length ∧ Kp h4 s.heap ∧ s.heap.get B = some (.cells (ints (cntS fr t ws.length j)) (.rw true) []) ∧ B < s.heap.next ∧ s.env.sz = 166 ∧ s.env.get 1 = vi t ∧ s.env.get 5 = c ∧ s.env.get 6 = d ∧ s.env.get 8 = f ∧ s.env.get 9 = vi 0 ∧ s.env.get 10 = .slice B 0 ws.length ws.length true 1 ∧ s.env.get 68 = vi fr.length ∧ s.env.get 69 = vi j) fr.length ⟨0, rfl, by omega, kp5, g5, hn5, ?_, ?_, ?_, ?_, ?_, ?_, ?_, ?_, ?_⟩ ?_
  · simp only [Env.sz_put, es]
  · simp only [Env.get_put, Nat.reduceEqDiff, reduceIte]
  · simp only [Env.get_put, Nat.reduceEqDiff, reduceIte, e5]
  · simp only [Env.get_put, Nat.reduceEqDiff, reduceIte, e6]
  · simp only [Env.get_put, Nat.reduceEqDiff, reduceIte]
  · simp only [Env.get_put, Nat.reduceEqDiff, reduceIte, hb1]
  · simp only [Env.get_put, Nat.reduceEqDiff, reduceIte]
  · simp only [Env.get_put, Nat.reduceEqDiff, reduceIte]
  · simp only [Env.get_put, Nat.reduceEqDiff, reduceIte]; rfl
  clear e1 e5 e6 es e kp5 g5 hn5 hc5
  rintro m ⟨e, h6⟩ ⟨j, rfl, hj, kp6, g6, hn6, es, e1, e5, e6, e8, e9, e10, e68, e69⟩
  dsimp only at kp6 g6 hn6 es e1 e5 e6 e8 e9 e10 e68 e69
  refine W.seqR 0 rfl fun K all hK hall => ?_
  simp (maxSteps := 2000000) (disch := first | assumption | simp [es, Env.sz_put]) only [WO_nil, List.getElem?_cons_zero, List.getElem?_cons_succ, WO_cons, WD_nil, WD_cons, List.nil_append, List.append_nil, List.cons_append, sel, nthO, wantedA_free, wantedA_by, putA_into, putA_no, execA, opv, opvs, ofConst, ofScalar, pureR, newR, skipR, builtinA, Env.get_put, binA, arith, Nat.reduceEqDiff, Nat.reduceAdd, reduceIte, bind2, Heap.bump0, isConst, beq_self_eq_true, Bool.false_eq_true, Bool.or_true, Bool.or_false, Bool.not_true, Bool.not_false, undefA, Option.map_some, and_self, bTF, bFT, e68, e69]
  subst hK; clear hall; try simp only [Then]
  by_cases c1 : j < fr.length
  · have c1' : (j : Int) < (fr.length : Int) := by omega
    refine W.seqT (W.condT (by simp only [opv, ofConst, ofScalar, Env.get_put, Nat.reduceEqDiff, reduceIte, c1', decide_true]) ?_)
    refine W.skip ?_
    simp only [Then]
    refine W.seqT (W.blockT ?_)
    refine W.seqR 0 rfl fun K all hK hall => ?_
    simp (maxSteps := 2000000) (disch := first | assumption | simp [es, Env.sz_put]) only [WO_nil, List.getElem?_cons_zero, List.getElem?_cons_succ, WO_cons, WD_nil, WD_cons, List.nil_append, List.append_nil, List.cons_append, sel, nthO, wantedA_free, wantedA_by, putA_into, putA_no, execA, opv, opvs, ofConst, ofScalar, pureR, newR, skipR, builtinA, Env.get_put, binA, arith, Nat.reduceEqDiff, Nat.reduceAdd, reduceIte, bind2, Heap.bump0, isConst, beq_self_eq_true, Bool.false_eq_true, Bool.or_true, Bool.or_false, Bool.not_true, Bool.not_false, undefA, Option.map_some, and_self, bTF, bFT, e69]
    subst hK; clear hall; try simp only [Then]
    have ew : IntKind.i64.wrap (t + j) = t + j := wrap_small (by omega) (by omega)
    obtain ⟨h7, kp7, r7⟩ := owner_runs (t := t + j) (hf4.ext kp6)
    rw [ownerS_who hfr (by omega)] at r7
    have hw := hin _ (whoS_mem hfr (t + j))
    obtain ⟨k, hk⟩ : ∃ k : Nat, whoS fr (t + j) = k := ⟨(whoS fr (t + j)).toNat, by omega⟩
    have hkn : k < ws.length := by omega
    have g7 : h7.get B = some (.cells (ints (cntS fr t ws.length j)) (.rw true) []) := by rw [kp7.2 B hn6]; exact g6
    have hn7 : B < h7.next := Nat.lt_of_lt_of_le hn6 kp7.1
    have kp47 : Kp h4 h7 := kp6.trans kp7
    have hcl := cntS_length fr t ws.length j
    have hcs := cnt_small hfr hin t hkn j
    rw [hk] at r7
    refine W.seqR 0 rfl fun K all hK hall => ?_
    simp (maxSteps := 2000000) (disch := first | assumption | simp [es, Env.sz_put]) only [WO_nil, List.getElem?_cons_zero, List.getElem?_cons_succ, WO_cons, WD_nil, WD_cons, List.nil_append, List.append_nil, List.cons_append, sel, nthO, wantedA_free, wantedA_by, putA_into, putA_no, execA, opv, opvs, ofConst, ofScalar, pureR, newR, skipR, builtinA, Env.get_put, binA, arith, Nat.reduceEqDiff, Nat.reduceAdd, reduceIte, bind2, Heap.bump0, isConst, beq_self_eq_true, Bool.false_eq_true, Bool.or_true, Bool.or_false, Bool.not_true, Bool.not_false, undefA, Option.map_some, and_self, bTF, bFT, e1, e8, ew]
    refine CallK.into (r7) (by simp [es, Env.sz_put]) ?_
    simp (maxSteps := 2000000) (disch := first | assumption | simp [es, Env.sz_put]) only [WO_nil, List.getElem?_cons_zero, List.getElem?_cons_succ, WO_cons, WD_nil, WD_cons, List.nil_append, List.append_nil, List.cons_append, sel, nthO, wantedA_free, wantedA_by, putA_into, putA_no, execA, opv, opvs, ofConst, ofScalar, pureR, newR, skipR, builtinA, Env.get_put, binA, arith, Nat.reduceEqDiff, Nat.reduceAdd, reduceIte, bind2, Heap.bump0, isConst, beq_self_eq_true, Bool.false_eq_true, Bool.or_true, Bool.or_false, Bool.not_true, Bool.not_false, undefA, Option.map_some, and_self, bTF, bFT]
    subst hK; clear hall; try simp only [Then]
    refine W.seqA ?_
    have z1 : decide ((k : Int) < 0) = false := by simp
    have z2 : decide ((k : Int) ≥ (ws.length : Int)) = false := by simp; omega
    refine W.seqR 0 rfl fun K all hK hall => ?_
    have g2 : (all[2]?).bind (·.dst) = some 79 := by subst hall; rfl
    simp (maxSteps := 2000000) (disch := first | assumption | simp [es, Env.sz_put]) only [WO_nil, List.getElem?_cons_zero, List.getElem?_cons_succ, WO_cons, WD_nil, WD_cons, List.nil_append, List.append_nil, List.cons_append, sel, nthO, wantedA_free, wantedA_by, putA_into, putA_no, execA, opv, opvs, ofConst, ofScalar, pureR, newR, skipR, builtinA, Env.get_put, binA, arith, Nat.reduceEqDiff, Nat.reduceAdd, reduceIte, bind2, Heap.bump0, isConst, beq_self_eq_true, Bool.false_eq_true, Bool.or_true, Bool.or_false, Bool.not_true, Bool.not_false, undefA, Option.map_some, and_self, bTF, bFT, e10, z1, z2, len_in]
    subst hK; clear hall; try simp only [Then]
    refine W.seqT (W.condF (by simp only [opv, Env.get_put, Nat.reduceEqDiff, reduceIte]) ?_)
    refine W.skip ?_
    simp only [Then]
    have ew2 : IntKind.i64.wrap (getI (cntS fr t ws.length j) k + 1) = getI (cntS fr t ws.length j) k + 1 := wrap_small (by omega) (by omega)
    have st := store_in g7 (i := k) (by rw [hcl]; exact hkn) (getI (cntS fr t ws.length j) k + 1)
    have ldk := load_in g7 (i := k) (by rw [hcl]; exact hkn)
    have adk := addr_in B ws.length hkn true ws.length
    refine W.reg 0 rfl fun K all hK hall => ?_
    simp (maxSteps := 2000000) (disch := first | assumption | simp [es, Env.sz_put]) only [WO_nil, List.getElem?_cons_zero, List.getElem?_cons_succ, WO_cons, WD_nil, WD_cons, List.nil_append, List.append_nil, List.cons_append, sel, nthO, wantedA_free, wantedA_by, putA_into, putA_no, execA, opv, opvs, ofConst, ofScalar, pureR, newR, skipR, builtinA, Env.get_put, binA, arith, Nat.reduceEqDiff, Nat.reduceAdd, reduceIte, bind2, Heap.bump0, isConst, beq_self_eq_true, Bool.false_eq_true, Bool.or_true, Bool.or_false, Bool.not_true, Bool.not_false, undefA, Option.map_some, and_self, bTF, bFT, e10, adk, ldk, ew2, st]
    subst hK; clear hall; try simp only [Then]
    simp only [Then, BlockQ, LoopQ, EndsR, Nat.reduceEqDiff, reduceIte]
    have ewj : IntKind.i64.wrap ((j : Int) + 1) = ((j + 1 : Nat) : Int) := by
      rw [wrap_small (by omega) (by omega)]; simp
    refine W.reg 0 rfl fun K all hK hall => ?_
    simp (maxSteps := 2000000) (disch := first | assumption | simp [es, Env.sz_put]) only [WO_nil, List.getElem?_cons_zero, List.getElem?_cons_succ, WO_cons, WD_nil, WD_cons, List.nil_append, List.append_nil, List.cons_append, sel, nthO, wantedA_free, wantedA_by, putA_into, putA_no, execA, opv, opvs, ofConst, ofScalar, pureR, newR, skipR, builtinA, Env.get_put, binA, arith, Nat.reduceEqDiff, Nat.reduceAdd, reduceIte, bind2, Heap.bump0, isConst, beq_self_eq_true, Bool.false_eq_true, Bool.or_true, Bool.or_false, Bool.not_true, Bool.not_false, undefA, Option.map_some, and_self, bTF, bFT, e69, ewj]
    subst hK; clear hall; try simp only [Then]
    simp only [Then, BlockQ, LoopQ, EndsR, Nat.reduceEqDiff, reduceIte]
    refine ⟨fr.length - (j + 1), by omega, j + 1, rfl, by omega, kp47.put hB4 _, ?_, hn7, ?_, ?_, ?_, ?_, ?_, ?_, ?_, ?_, ?_⟩
    · rw [Heap.get_put, if_pos rfl, cntS, hk, Int.toNat_natCast]
    · simp only [Env.sz_put, es]
    · simp only [Env.get_put, Nat.reduceEqDiff, reduceIte, e1]
    · simp only [Env.get_put, Nat.reduceEqDiff, reduceIte, e5]
    · simp only [Env.get_put, Nat.reduceEqDiff, reduceIte, e6]
    · simp only [Env.get_put, Nat.reduceEqDiff, reduceIte, e8]
    · simp only [Env.get_put, Nat.reduceEqDiff, reduceIte, e9]
    · simp only [Env.get_put, Nat.reduceEqDiff, reduceIte, e10]
    · simp only [Env.get_put, Nat.reduceEqDiff, reduceIte, e68]
    · simp only [Env.get_put, Nat.reduceEqDiff, reduceIte]
  have c1' : ¬ (j : Int) < (fr.length : Int) := by omega
  refine W.seqT (W.condF (by simp only [opv, ofConst, ofScalar, Env.get_put, Nat.reduceEqDiff, reduceIte, c1', decide_false]) ?_)
  refine W.exit ?_
  simp only [Then, BlockQ, LoopQ, EndsR, Nat.reduceEqDiff, reduceIte]
  have hjl : j = fr.length := by omega
  subst hjl
  have hcl := cntS_length fr t ws.length fr.length
  have hcw : ∀ i, i < ws.length → getI (cntS fr t ws.length fr.length) i = getI ws i := fun i hi => by
    rw [cntS_occ hfr hin t hi, occ_whole fr i pr.1]; exact hcount i hi
  generalize cntS fr t ws.length fr.length = cn at g6 hcl hcw
  have hc6 := hc4.ext kp6
  have hd6 := hd4.ext kp6
  have hf6 := hf4.ext kp6
  refine W.seqA ?_
  refine W.seqR 0 rfl fun K all hK hall => ?_
  simp (maxSteps := 2000000) (disch := first | assumption | simp [es, Env.sz_put]) only [WO_nil, List.getElem?_cons_zero, List.getElem?_cons_succ, WO_cons, WD_nil, WD_cons, List.nil_append, List.append_nil, List.cons_append, sel, nthO, wantedA_free, wantedA_by, putA_into, putA_no, execA, opv, opvs, ofConst, ofScalar, pureR, newR, skipR, builtinA, Env.get_put, binA, arith, Nat.reduceEqDiff, Nat.reduceAdd, reduceIte, bind2, Heap.bump0, isConst, beq_self_eq_true, Bool.false_eq_true, Bool.or_true, Bool.or_false, Bool.not_true, Bool.not_false, undefA, Option.map_some, and_self, bTF, bFT, e5, hlc]
  subst hK; clear hall; try simp only [Then]
  refine W.seqLoop (fun m s => ∃ (i : Nat), m = ws.length - i ∧ i ≤ ws.length ∧ Kp h6 s.heap ∧ s.env.sz = 166 ∧ s.env.get 1 = vi t ∧ s.env.get 5 = c ∧ s.env.get 6 = d ∧ s.env.get 8 = f ∧ s.env.get 9 = vi 0 ∧ s.env.get 10 = .slice B 0 ws.length ws.length true 1 ∧ s.env.get 93 = vi ws.length ∧ s.env.get 94 = vi i) ws.length ⟨0, rfl, by omega, Kp.refl _, ?_, ?_, ?_, ?_, ?_, ?_, ?_, ?_, ?_⟩ ?_
  · simp only [Env.sz_put, es]
  · simp only [Env.get_put, Nat.reduceEqDiff, reduceIte, e1]
  · simp only [Env.get_put, Nat.reduceEqDiff, reduceIte, e5]
  · simp only [Env.get_put, Nat.reduceEqDiff, reduceIte, e6]
  · simp only [Env.get_put, Nat.reduceEqDiff, reduceIte, e8]
  · simp only [Env.get_put, Nat.reduceEqDiff, reduceIte, e9]
  · simp only [Env.get_put, Nat.reduceEqDiff, reduceIte, e10]
  · simp only [Env.get_put, Nat.reduceEqDiff, reduceIte]
  · simp only [Env.get_put, Nat.reduceEqDiff, reduceIte]; rfl
  clear e1 e5 e6 e8 e9 e10 e68 e69 es e hj c1 c1'
  rintro m ⟨e, h8⟩ ⟨i, rfl, hi, kp8, es, e1, e5, e6, e8, e9, e10, e93, e94⟩
  dsimp only at kp8 es e1 e5 e6 e8 e9 e10 e93 e94
  refine W.seqR 0 rfl fun K all hK hall => ?_
  simp (maxSteps := 2000000) (disch := first | assumption | simp [es, Env.sz_put]) only [WO_nil, List.getElem?_cons_zero, List.getElem?_cons_succ, WO_cons, WD_nil, WD_cons, List.nil_append, List.append_nil, List.cons_append, sel, nthO, wantedA_free, wantedA_by, putA_into, putA_no, execA, opv, opvs, ofConst, ofScalar, pureR, newR, skipR, builtinA, Env.get_put, binA, arith, Nat.reduceEqDiff, Nat.reduceAdd, reduceIte, bind2, Heap.bump0, isConst, beq_self_eq_true, Bool.false_eq_true, Bool.or_true, Bool.or_false, Bool.not_true, Bool.not_false, undefA, Option.map_some, and_self, bTF, bFT, e93, e94]
  subst hK; clear hall; try simp only [Then]
  by_cases c1 : i < ws.length
  · have c1' : (i : Int) < (ws.length : Int) := by omega
    refine W.seqT (W.condT (by simp only [opv, ofConst, ofScalar, Env.get_put, Nat.reduceEqDiff, reduceIte, c1', decide_true]) ?_)
    refine W.skip ?_
    simp only [Then]
    refine W.seqT (W.blockT ?_)
    refine W.seqR 0 rfl fun K all hK hall => ?_
    simp (maxSteps := 2000000) (disch := first | assumption | simp [es, Env.sz_put]) only [WO_nil, List.getElem?_cons_zero, List.getElem?_cons_succ, WO_cons, WD_nil, WD_cons, List.nil_append, List.append_nil, List.cons_append, sel, nthO, wantedA_free, wantedA_by, putA_into, putA_no, execA, opv, opvs, ofConst, ofScalar, pureR, newR, skipR, builtinA, Env.get_put, binA, arith, Nat.reduceEqDiff, Nat.reduceAdd, reduceIte, bind2, Heap.bump0, isConst, beq_self_eq_true, Bool.false_eq_true, Bool.or_true, Bool.or_false, Bool.not_true, Bool.not_false, undefA, Option.map_some, and_self, bTF, bFT, e94]
    subst hK; clear hall; try simp only [Then]
    obtain ⟨h9, kp9, r9⟩ := next_runs (t := t) (w := (i : Int)) (hf6.ext kp8)
    have nx := nextS_nx fr pr.1 (i : Int)
    generalize nextS fr t (i : Int) = r at nx r9
    have himem : (i : Int) ∈ fr := by
      have q := hcount i c1
      have := (hwm _ (getI_mem c1)).1
      apply List.count_pos_iff.mp
      omega
    have hr0 := (nx_is nx).mpr himem
    have hr1 := (nx_bounds nx).2
    have how : ownerS fr (t + r) = i := by
      rcases Int.lt_trichotomy r 0 with q | q | q
      · omega
      · subst q; rw [Int.add_zero]; exact nx_zero pr.1 nx
      · exact (nx_pos pr.1 nx q).2.1
    have kp69 : Kp h6 h9 := kp8.trans kp9
    have g9 : h9.get B = some (.cells (ints cn) (.rw true) []) := by rw [kp69.2 B hn6]; exact g6
    obtain ⟨h10, kp10, r10⟩ := owner_runs (t := t + r) (hf6.ext kp69)
    rw [how] at r10
    have hlf9 := (hf6.ext kp69).len
    have ld1 := load_in g9 (i := i) (by rw [hcl]; exact c1)
    rw [hcw i c1] at ld1
    have ad1 := addr_in B ws.length c1 true ws.length
    obtain ⟨b2, o2, ad2, ld2⟩ := (hc6.ext kp69).addr (i := (i : Int)) (by omega) c1'
    have ld2 : loadA Try.prog h9 3 (.ptr b2 o2) = some (vi (getI ws i)) := by rw [ld2, getI_of c1]; rfl
    have ew : IntKind.i64.wrap (t + r) = t + r := wrap_small (by omega) (by omega)
    have z1 : (getI ws i != getI ws i) = false := by simp
    have z2 : decide (r < 0) = false := by simp; omega
    have z3 : decide (r ≥ (fr.length : Int)) = false := by simp; omega
    have z4 : ((i : Int) != (i : Int)) = false := by simp
    refine W.seqR 0 rfl fun K all hK hall => ?_
    simp (maxSteps := 2000000) (disch := first | assumption | simp [es, Env.sz_put]) only [WO_nil, List.getElem?_cons_zero, List.getElem?_cons_succ, WO_cons, WD_nil, WD_cons, List.nil_append, List.append_nil, List.cons_append, sel, nthO, wantedA_free, wantedA_by, putA_into, putA_no, execA, opv, opvs, ofConst, ofScalar, pureR, newR, skipR, builtinA, Env.get_put, binA, arith, Nat.reduceEqDiff, Nat.reduceAdd, reduceIte, bind2, Heap.bump0, isConst, beq_self_eq_true, Bool.false_eq_true, Bool.or_true, Bool.or_false, Bool.not_true, Bool.not_false, undefA, Option.map_some, and_self, bTF, bFT, e1, e8]
    refine CallK.into (r9) (by simp [es, Env.sz_put]) ?_
    simp (maxSteps := 2000000) (disch := first | assumption | simp [es, Env.sz_put]) only [WO_nil, List.getElem?_cons_zero, List.getElem?_cons_succ, WO_cons, WD_nil, WD_cons, List.nil_append, List.append_nil, List.cons_append, sel, nthO, wantedA_free, wantedA_by, putA_into, putA_no, execA, opv, opvs, ofConst, ofScalar, pureR, newR, skipR, builtinA, Env.get_put, binA, arith, Nat.reduceEqDiff, Nat.reduceAdd, reduceIte, bind2, Heap.bump0, isConst, beq_self_eq_true, Bool.false_eq_true, Bool.or_true, Bool.or_false, Bool.not_true, Bool.not_false, undefA, Option.map_some, and_self, bTF, bFT]
    subst hK; clear hall; try simp only [Then]
    refine W.seqD 0 [0, 1, 2, 3, 4, 5, 6, 7, 8, 9, 10, 11, 12, 13, 14, 15, 16, 17, 18, 19, 20, 21, 22, 23, 25, 24, 26, 27] (by kernel_rfl) (by kernel_rfl) (by kernel_rfl) rfl rfl fun K all hK hall => ?_
    have g9 : (all[9]?).bind (·.dst) = some 110 := by subst hall; rfl
    have g13 : (all[13]?).bind (·.dst) = some 114 := by subst hall; rfl
    have g19 : (all[19]?).bind (·.dst) = some 120 := by subst hall; rfl
    simp (maxSteps := 2000000) (disch := first | assumption | simp [es, Env.sz_put]) only [WO_nil, List.getElem?_cons_zero, List.getElem?_cons_succ, WO_cons, WD_nil, WD_cons, List.nil_append, List.append_nil, List.cons_append, sel, nthO, wantedA_free, wantedA_by, putA_into, putA_no, execA, opv, opvs, ofConst, ofScalar, pureR, newR, skipR, builtinA, Env.get_put, binA, arith, Nat.reduceEqDiff, Nat.reduceAdd, reduceIte, bind2, Heap.bump0, isConst, beq_self_eq_true, Bool.false_eq_true, Bool.or_true, Bool.or_false, Bool.not_true, Bool.not_false, undefA, Option.map_some, and_self, bTF, bFT, e1, e5, e8, e10, ad1, ld1, ad2, ld2, hlf9, ew, z1, z2, z3]
    refine CallD.into (r10) (by simp [es, Env.sz_put]) ?_
    simp (maxSteps := 2000000) (disch := first | assumption | simp [es, Env.sz_put]) only [WO_nil, List.getElem?_cons_zero, List.getElem?_cons_succ, WO_cons, WD_nil, WD_cons, List.nil_append, List.append_nil, List.cons_append, sel, nthO, wantedA_free, wantedA_by, putA_into, putA_no, execA, opv, opvs, ofConst, ofScalar, pureR, newR, skipR, builtinA, Env.get_put, binA, arith, Nat.reduceEqDiff, Nat.reduceAdd, reduceIte, bind2, Heap.bump0, isConst, beq_self_eq_true, Bool.false_eq_true, Bool.or_true, Bool.or_false, Bool.not_true, Bool.not_false, undefA, Option.map_some, and_self, bTF, bFT, z4]
    subst hK; clear hall; try simp only [Then]
    refine W.condF (by simp only [opv, Env.get_put, Nat.reduceEqDiff, reduceIte]) ?_
    refine W.skip ?_
    simp only [Then, BlockQ, LoopQ, EndsR, Nat.reduceEqDiff, reduceIte]
    have ewi : IntKind.i64.wrap ((i : Int) + 1) = ((i + 1 : Nat) : Int) := by
      rw [wrap_small (by omega) (by omega)]; simp
    refine W.reg 0 rfl fun K all hK hall => ?_
    simp (maxSteps := 2000000) (disch := first | assumption | simp [es, Env.sz_put]) only [WO_nil, List.getElem?_cons_zero, List.getElem?_cons_succ, WO_cons, WD_nil, WD_cons, List.nil_append, List.append_nil, List.cons_append, sel, nthO, wantedA_free, wantedA_by, putA_into, putA_no, execA, opv, opvs, ofConst, ofScalar, pureR, newR, skipR, builtinA, Env.get_put, binA, arith, Nat.reduceEqDiff, Nat.reduceAdd, reduceIte, bind2, Heap.bump0, isConst, beq_self_eq_true, Bool.false_eq_true, Bool.or_true, Bool.or_false, Bool.not_true, Bool.not_false, undefA, Option.map_some, and_self, bTF, bFT, e94, ewi]
    subst hK; clear hall; try simp only [Then]
    simp only [Then, BlockQ, LoopQ, EndsR, Nat.reduceEqDiff, reduceIte]
    refine ⟨ws.length - (i + 1), by omega, i + 1, rfl, by omega, kp69.trans kp10, ?_, ?_, ?_, ?_, ?_, ?_, ?_, ?_, ?_⟩
    · simp only [Env.sz_put, es]
    · simp only [Env.get_put, Nat.reduceEqDiff, reduceIte, e1]
    · simp only [Env.get_put, Nat.reduceEqDiff, reduceIte, e5]
    · simp only [Env.get_put, Nat.reduceEqDiff, reduceIte, e6]
    · simp only [Env.get_put, Nat.reduceEqDiff, reduceIte, e8]
    · simp only [Env.get_put, Nat.reduceEqDiff, reduceIte, e9]
    · simp only [Env.get_put, Nat.reduceEqDiff, reduceIte, e10]
    · simp only [Env.get_put, Nat.reduceEqDiff, reduceIte, e93]
    · simp only [Env.get_put, Nat.reduceEqDiff, reduceIte]
  have c1' : ¬ (i : Int) < (ws.length : Int) := by omega
  refine W.seqT (W.condF (by simp only [opv, ofConst, ofScalar, Env.get_put, Nat.reduceEqDiff, reduceIte, c1', decide_false]) ?_)
  refine W.exit ?_
  simp only [Then, BlockQ, LoopQ, EndsR, Nat.reduceEqDiff, reduceIte]
  have hd8 := hd6.ext kp8
  have hf8 := hf6.ext kp8
  clear hd6 hf6 hc6 hc4 hd4 hf4 g6 hcw kp6 kp8
  obtain ⟨g, h9, kp9, og, r9⟩ := build_runs hd8 (fun w hw => by
    obtain ⟨x, hx, rfl⟩ := List.mem_map.mp hw
    have := hwm x hx; omega)
  rw [hb2] at og
  have og' : Holds h9 g (fr ++ fr) := og.holds
  simp only [hb2] at r9
  refine W.seqR 0 rfl fun K all hK hall => ?_
  simp (maxSteps := 2000000) (disch := first | assumption | simp [es, Env.sz_put]) only [WO_nil, List.getElem?_cons_zero, List.getElem?_cons_succ, WO_cons, WD_nil, WD_cons, List.nil_append, List.append_nil, List.cons_append, sel, nthO, wantedA_free, wantedA_by, putA_into, putA_no, execA, opv, opvs, ofConst, ofScalar, pureR, newR, skipR, builtinA, Env.get_put, binA, arith, Nat.reduceEqDiff, Nat.reduceAdd, reduceIte, bind2, Heap.bump0, isConst, beq_self_eq_true, Bool.false_eq_true, Bool.or_true, Bool.or_false, Bool.not_true, Bool.not_false, undefA, Option.map_some, and_self, bTF, bFT, e6]
  refine CallK.into (r9) (by simp [es, Env.sz_put]) ?_
  simp (maxSteps := 2000000) (disch := first | assumption | simp [es, Env.sz_put]) only [WO_nil, List.getElem?_cons_zero, List.getElem?_cons_succ, WO_cons, WD_nil, WD_cons, List.nil_append, List.append_nil, List.cons_append, sel, nthO, wantedA_free, wantedA_by, putA_into, putA_no, execA, opv, opvs, ofConst, ofScalar, pureR, newR, skipR, builtinA, Env.get_put, binA, arith, Nat.reduceEqDiff, Nat.reduceAdd, reduceIte, bind2, Heap.bump0, isConst, beq_self_eq_true, Bool.false_eq_true, Bool.or_true, Bool.or_false, Bool.not_true, Bool.not_false, undefA, Option.map_some, and_self, bTF, bFT]
  subst hK; clear hall; try simp only [Then]
  have z0 : ((0 : Int) != 0) = false := rfl
  refine W.seqA ?_
  refine W.seqR 0 rfl fun K all hK hall => ?_
  simp (maxSteps := 2000000) (disch := first | assumption | simp [es, Env.sz_put]) only [WO_nil, List.getElem?_cons_zero, List.getElem?_cons_succ, WO_cons, WD_nil, WD_cons, List.nil_append, List.append_nil, List.cons_append, sel, nthO, wantedA_free, wantedA_by, putA_into, putA_no, execA, opv, opvs, ofConst, ofScalar, pureR, newR, skipR, builtinA, Env.get_put, binA, arith, Nat.reduceEqDiff, Nat.reduceAdd, reduceIte, bind2, Heap.bump0, isConst, beq_self_eq_true, Bool.false_eq_true, Bool.or_true, Bool.or_false, Bool.not_true, Bool.not_false, undefA, Option.map_some, and_self, bTF, bFT, hb2, z0]
  subst hK; clear hall; try simp only [Then]
  refine W.seqT (W.condF (by simp only [opv, Env.get_put, Nat.reduceEqDiff, reduceIte]) ?_)
  refine W.skip ?_
  simp only [Then]
  have hf9 := hf8.ext kp9
  have hflp : 0 < fr.length := List.length_pos_iff.mpr hfr
  obtain ⟨s2, g2, s3, g3, p1, p2, p3, p4⟩ := app_two hf9 hflp (by omega) (f1 := h9.next + 1 + 1 + 1 + 1) (f2 := h9.next + 1 + 1 + 1 + 1 + 1 + 1) (f3 := h9.next + 1 + 1 + 1 + 1 + 1 + 1 + 1 + 1) (n := 15) (by omega) (by omega) (by omega) (by omega)
  obtain ⟨h11, kp11, r11⟩ := same_runs (og'.ext p3) p4
  simp only [decide_true] at r11
  have z1 : ((0 : Int) == 0) = true := rfl
  refine W.seqR 15 rfl fun K all hK hall => ?_
  have g2 : (all[2]?).bind (·.dst) = some 154 := by subst hall; rfl
  have g11 : (all[11]?).bind (·.dst) = some 163 := by subst hall; rfl
  simp (maxSteps := 2000000) (disch := first | assumption | simp [es, Env.sz_put]) only [WO_nil, List.getElem?_cons_zero, List.getElem?_cons_succ, WO_cons, WD_nil, WD_cons, List.nil_append, List.append_nil, List.cons_append, sel, nthO, wantedA_free, wantedA_by, putA_into, putA_no, execA, opv, opvs, ofConst, ofScalar, pureR, newR, skipR, builtinA, Env.get_put, binA, arith, Nat.reduceEqDiff, Nat.reduceAdd, reduceIte, bind2, Heap.bump0, isConst, beq_self_eq_true, Bool.false_eq_true, Bool.or_true, Bool.or_false, Bool.not_true, Bool.not_false, undefA, Option.map_some, and_self, bTF, bFT, e8, e9, z1, hb2, parts, build0, p1, p2]
  refine CallK.into (r11) (by simp [es, Env.sz_put]) ?_
  simp (maxSteps := 2000000) (disch := first | assumption | simp [es, Env.sz_put]) only [WO_nil, List.getElem?_cons_zero, List.getElem?_cons_succ, WO_cons, WD_nil, WD_cons, List.nil_append, List.append_nil, List.cons_append, sel, nthO, wantedA_free, wantedA_by, putA_into, putA_no, execA, opv, opvs, ofConst, ofScalar, pureR, newR, skipR, builtinA, Env.get_put, binA, arith, Nat.reduceEqDiff, Nat.reduceAdd, reduceIte, bind2, Heap.bump0, isConst, beq_self_eq_true, Bool.false_eq_true, Bool.or_true, Bool.or_false, Bool.not_true, Bool.not_false, undefA, Option.map_some, and_self, bTF, bFT]
  refine CallK.into (awake_in _) (by simp [es, Env.sz_put]) ?_
  simp (maxSteps := 2000000) (disch := first | assumption | simp [es, Env.sz_put]) only [WO_nil, List.getElem?_cons_zero, List.getElem?_cons_succ, WO_cons, WD_nil, WD_cons, List.nil_append, List.append_nil, List.cons_append, sel, nthO, wantedA_free, wantedA_by, putA_into, putA_no, execA, opv, opvs, ofConst, ofScalar, pureR, newR, skipR, builtinA, Env.get_put, binA, arith, Nat.reduceEqDiff, Nat.reduceAdd, reduceIte, bind2, Heap.bump0, isConst, beq_self_eq_true, Bool.false_eq_true, Bool.or_true, Bool.or_false, Bool.not_true, Bool.not_false, undefA, Option.map_some, and_self, bTF, bFT]
  subst hK; clear hall; try simp only [Then]
  refine W.ret ?_
  simp only [Then, BlockQ, LoopQ, EndsR, Nat.reduceEqDiff, reduceIte]
  refine ⟨_, rfl, ?_⟩
  simp only [oneOf, Env.get_put, Nat.reduceEqDiff, reduceIte]

end Go.Proofs.Ytmggkamdihgmiaa.AM
