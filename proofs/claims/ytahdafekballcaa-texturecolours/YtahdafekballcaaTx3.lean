/-
  The colours of a texture, part 3: the law's walk. Conditions: none.
-/
import Derived.Test.YtahdafekballcaaTx2
namespace Go.Proofs.Ytahdafekballcaa.AM
open Go Go.Proofs
set_option linter.unusedVariables false
set_option linter.unusedSimpArgs false

theorem aggA2 : aggA Try.prog 2 = some false := by kernel_rfl
theorem aggA24 : aggA Try.prog 24 = some true := by kernel_rfl
theorem sizeA24 : sizeA Try.prog 24 = some 3 := by kernel_rfl
theorem fb0 (B : Nat) : fieldAddrA Try.prog 27 (.ptr B 0) 0 = some (.ptr B 0) := by kernel_rfl
theorem fb1 (B : Nat) : fieldAddrA Try.prog 27 (.ptr B 0) 1 = some (.ptr B 1) := by kernel_rfl
theorem fb2 (B : Nat) : fieldAddrA Try.prog 27 (.ptr B 0) 2 = some (.ptr B 2) := by kernel_rfl
theorem load2 {h : Heap} {B i : Nat} {l : List AV} {v : AV} (hB : rdA h B = l) (hi : l[i]? = some v) : loadA Try.prog h 2 (.ptr B i) = some v := by simp only [loadA, aggA2, hB, hi]
theorem load24 {h : Heap} {B : Nat} {a b c : AV} (hB : rdA h B = [a, b, c]) : loadA Try.prog h 24 (.ptr B 0) = some (.agg [a, b, c]) := by simp only [loadA, aggA24, sizeA24, hB]; rfl
theorem build29v (x y z : Int) : buildA Try.prog 29 [(0, vi x), (1, vi y), (2, vi z)] = some (.agg [vi x, vi y, vi z]) := by kernel_rfl
theorem build24 : buildA Try.prog 24 [] = some (.agg [vi 0, vi 0, .nils]) := by kernel_rfl
theorem index29 (f : Nat → Int) : ∀ i : Nat, i < 3 → indexA Try.prog 29 (.agg [vi (f 0), vi (f 1), vi (f 2)]) (vi i) = some (vi (f i))
  | 0, _ => by kernel_rfl
  | 1, _ => by kernel_rfl
  | 2, _ => by kernel_rfl
  | i + 3, h => by omega

theorem byte_in {b : Nat} (h : b < 256) : 0 ≤ (b : Int) ∧ (b : Int) < 2147483648 := by omega

theorem of255 (h : Heap) : Runs Try.prog XT 7 [vi 255] h (.ret (vi 1095216660480)) h := by
  have e : (255 : Int) * 4294967296 = 1095216660480 := by omega
  have r := of_runs (h := h) (n := 255) (by omega) (by omega)
  rw [e] at r
  exact r

theorem und2 : Try.prog.underlying 2 = some (.int .i64) := by kernel_rfl

theorem guard27 : Try.prog.eqGuardType Try.prog.depth 27 = false := by kernel_rfl

theorem eqv0 (h : Heap) (con : Bool) (a b c : Int) : ∃ q : Int → Int → Bool, (∀ x, q x x = true) ∧ eqD Try.prog 6 27 (.agg [vi a, vi b, vi c]) (.agg [vi a, vi b, vi c]) = (match some (q a a) with
    | some true => (match some (q b b) with
      | some true => (match some (q c c) with
        | some true => some true
        | r => r)
      | r => r)
    | r => r) := ⟨fun x y => x == y, fun x => by simp, by kernel_rfl⟩

theorem eqdv (a b c : Int) : eqD Try.prog 6 27 (.agg [vi a, vi b, vi c]) (.agg [vi a, vi b, vi c]) = some true := by
  obtain ⟨q, h1, h2⟩ := eqv0 ⟨0, .nil⟩ true a b c
  rw [h2]
  simp only [h1]

theorem PixIs.beq {h : Heap} {p : AV} {l : List Int} (x : PixIs h p l) (a b : Int) : AV.beq (.agg [vi a, vi b, p]) (.agg [vi a, vi b, p]) = true := by
  rcases x with ⟨rfl, rfl⟩ | ⟨b', cap, rfl, h1, h2, h3⟩ <;> simp [AV.beq, AV.beqs]

theorem eqv (h : Heap) (con : Bool) (a b c : Int) : binA Try.prog h .eql 27 con (.agg [vi a, vi b, vi c]) (.agg [vi a, vi b, vi c]) = some (.bool true) := by
  obtain ⟨q, h1, h2⟩ := eqv0 h con a b c
  simp only [binA, guard27, h2, h1]
  rfl

/-- A whole number on, it is the same. -/
theorem plcI_more (a n : Int) : plcI (a + 4294967296) n = plcI a n := by
  unfold plcI
  rw [show (a + 4294967296) % 4294967296 = a % 4294967296 by omega]
theorem plcI_less (a n : Int) : plcI (a - 4294967296) n = plcI a n := by
  unfold plcI
  rw [show (a - 4294967296) % 4294967296 = a % 4294967296 by omega]

theorem colr_on (l : List Int) (wd hg u v : Int) : colr l wd hg (u + 4294967296) (v - 4294967296) = colr l wd hg u v := by
  unfold colr smpB atI
  rw [plcI_more, plcI_less]

theorem colr_zero (u v : Int) : colr [] 0 0 u v = .agg [vi 0, vi 0, vi 0] := by
  have nr : ¬ Right 0 0 [] := fun r => by have := r.1; omega
  unfold colr smpB
  simp only [nr, if_false]
  rfl

/-- A whole number farther there are still places. -/
def Low (u v : Int) : Prop := u > -9223372028264841216 ∧ u < 9223372028264841215 ∧ v > -9223372028264841216 ∧ v < 9223372028264841215
instance (u v : Int) : Decidable (Low u v) := by unfold Low; exact inferInstance

theorem low_wraps {u v : Int} (hu : -9223372036854775808 ≤ u ∧ u < 9223372036854775808) (hv : -9223372036854775808 ≤ v ∧ v < 9223372036854775808) (lo : Low u v) : IntKind.i64.wrap (u + 4294967296) = u + 4294967296 ∧ IntKind.i64.wrap (v - 4294967296) = v - 4294967296 := by
  obtain ⟨a1, a2, a3, a4⟩ := lo
  exact ⟨wrap_i (by omega) (by omega), wrap_i (by omega) (by omega)⟩

set_option maxHeartbeats 8000000 in
theorem law_runs {h : Heap} {p : AV} {l : List Int} {wd hg u v : Int} (hp : PixIs h p l) (hb : ∀ x, x ∈ l → 0 ≤ x ∧ x < 256) (hu : -9223372036854775808 ≤ u ∧ u < 9223372036854775808) (hv : -9223372036854775808 ≤ v ∧ v < 9223372036854775808) : ∃ h', Runs Try.prog XT 3 [.agg [vi wd, vi hg, p], vi u, vi v] h (.ret (.bool true)) h' := by
  suffices hs : ∃ r h', Runs Try.prog XT 3 [.agg [vi wd, vi hg, p], vi u, vi v] h r h' ∧ r = .ret (.bool true) by
    obtain ⟨r, h', h1, rfl⟩ := hs
    exact ⟨h', h1⟩
  refine Runs.ends rfl Try.func3 rfl ?_
  generalize hE : Env.init [.agg [vi wd, vi hg, p], vi u, vi v] Try.f3.ntmps = e
  have e0 : e.get 0 = .agg [vi wd, vi hg, p] := by subst hE; rfl
  have e1 : e.get 1 = vi u := by subst hE; rfl
  have e2 : e.get 2 = vi v := by subst hE; rfl
  have es : e.sz = 88 := by subst hE; rfl
  clear hE
  refine W.seqR 2 rfl fun K all hK hall => ?_
  simp (maxSteps := 2000000) (disch := first | assumption | simp [es, Env.sz_put]) only [WO_nil, List.getElem?_cons_zero, List.getElem?_cons_succ, WO_cons, WD_nil, WD_cons, List.nil_append, List.append_nil, List.cons_append, sel, nthO, wantedA_free, wantedA_by, putA_into, putA_no, execA, opv, opvs, ofConst, ofScalar, pureR, newR, skipR, builtinA, Env.get_put, binA, arith, Nat.reduceEqDiff, Nat.reduceAdd, reduceIte, bind2, Heap.bump0, isConst, beq_self_eq_true, Bool.false_eq_true, Bool.or_true, Bool.or_false, Bool.not_true, Bool.not_false, undefA, Option.map_some, and_self, bTF, bFT, e0, box_agg]
  subst hK; clear hall; try simp only [Then]
  have kp1 : Kp h (newA (h.bump 2) h.next [vi wd, vi hg, p]) := (Kp.bump h 2).put (Nat.le_refl _) _
  have hB1 : rdA (newA (h.bump 2) h.next [vi wd, vi hg, p]) h.next = [vi wd, vi hg, p] := rd_new _ _ _
  have hn1 : h.next < (newA (h.bump 2) h.next [vi wd, vi hg, p]).next := by show h.next < h.next + 2; omega
  generalize h.next = B at hB1 hn1 kp1
  generalize newA (h.bump 2) B [vi wd, vi hg, p] = h1 at hB1 hn1 kp1
  have hp1 := hp.ext kp1
  have hlen := hp1.len
  have lP : loadA Try.prog h1 22 (.ptr B 2) = some p := load22 hB1 rfl
  refine W.seqA ?_
  refine W.seqR 0 rfl fun K all hK hall => ?_
  simp (maxSteps := 2000000) (disch := first | assumption | simp [es, Env.sz_put]) only [WO_nil, List.getElem?_cons_zero, List.getElem?_cons_succ, WO_cons, WD_nil, WD_cons, List.nil_append, List.append_nil, List.cons_append, sel, nthO, wantedA_free, wantedA_by, putA_into, putA_no, execA, opv, opvs, ofConst, ofScalar, pureR, newR, skipR, builtinA, Env.get_put, binA, arith, Nat.reduceEqDiff, Nat.reduceAdd, reduceIte, bind2, Heap.bump0, isConst, beq_self_eq_true, Bool.false_eq_true, Bool.or_true, Bool.or_false, Bool.not_true, Bool.not_false, undefA, Option.map_some, and_self, bTF, bFT, fa2, lP, hlen]
  subst hK; clear hall; try simp only [Then]
  by_cases c1 : (l.length : Int) > 2000
  · refine W.seqT (W.condT (by simp only [opv, ofConst, ofScalar, Env.get_put, Nat.reduceEqDiff, reduceIte, c1, decide_true]) ?_)
    refine W.seqR 0 rfl fun K all hK hall => ?_
    simp (maxSteps := 2000000) (disch := first | assumption | simp [es, Env.sz_put]) only [WO_nil, List.getElem?_cons_zero, List.getElem?_cons_succ, WO_cons, WD_nil, WD_cons, List.nil_append, List.append_nil, List.cons_append, sel, nthO, wantedA_free, wantedA_by, putA_into, putA_no, execA, opv, opvs, ofConst, ofScalar, pureR, newR, skipR, builtinA, Env.get_put, binA, arith, Nat.reduceEqDiff, Nat.reduceAdd, reduceIte, bind2, Heap.bump0, isConst, beq_self_eq_true, Bool.false_eq_true, Bool.or_true, Bool.or_false, Bool.not_true, Bool.not_false, undefA, Option.map_some, and_self, bTF, bFT]
    refine CallK.into (awake_runs _) (by simp [es, Env.sz_put]) ?_
    simp (maxSteps := 2000000) (disch := first | assumption | simp [es, Env.sz_put]) only [WO_nil, List.getElem?_cons_zero, List.getElem?_cons_succ, WO_cons, WD_nil, WD_cons, List.nil_append, List.append_nil, List.cons_append, sel, nthO, wantedA_free, wantedA_by, putA_into, putA_no, execA, opv, opvs, ofConst, ofScalar, pureR, newR, skipR, builtinA, Env.get_put, binA, arith, Nat.reduceEqDiff, Nat.reduceAdd, reduceIte, bind2, Heap.bump0, isConst, beq_self_eq_true, Bool.false_eq_true, Bool.or_true, Bool.or_false, Bool.not_true, Bool.not_false, undefA, Option.map_some, and_self, bTF, bFT]
    subst hK; clear hall; try simp only [Then]
    refine W.ret ?_
    simp only [Then, BlockQ, LoopQ, EndsR, Nat.reduceEqDiff, reduceIte]
    refine ⟨_, rfl, ?_⟩
    simp only [oneOf, Env.get_put, Nat.reduceEqDiff, reduceIte]
  · refine W.seqT (W.condF (by simp only [opv, ofConst, ofScalar, Env.get_put, Nat.reduceEqDiff, reduceIte, c1, decide_false]) ?_)
    refine W.skip ?_
    simp only [Then]
    obtain ⟨h2, kp2, r2⟩ := sample_runs (h := h1.bump 6) (wd := wd) (hg := hg) (u := u) (v := v) (hp1.ext (Kp.bump h1 6)) hb
    have kp12 : Kp h1 h2 := (Kp.bump h1 6).trans kp2
    have l24 : loadA Try.prog (h1.bump 6) 24 (.ptr B 0) = some (.agg [vi wd, vi hg, p]) := load24 hB1
    obtain ⟨x0, q0⟩ : ∃ x : Nat → Nat, x = fun i => smpB l wd hg u v i := ⟨_, rfl⟩
    have hcol : colr l wd hg u v = .agg [vi (share (x0 0)), vi (share (x0 1)), vi (share (x0 2))] := by rw [q0]; rfl
    have hlt : ∀ i, x0 i < 256 := fun i => by rw [q0]; exact smpB_lt hb wd hg u v i
    rw [hcol] at r2
    have hnn : h1.next + 4 < h2.next := by
      have h3 : h1.next + 6 ≤ h2.next := kp2.1
      omega
    have hst : ∀ a b c : AV, [a, b, c].all AV.isCell = true → storeA Try.prog (newA h2 (h1.next + 4) [vi 0, vi 0, vi 0]) 27 (.ptr (h1.next + 4) 0) (.agg [a, b, c]) = some ((newA h2 (h1.next + 4) [vi 0, vi 0, vi 0]).put (h1.next + 4) (some (.cells [a, b, c] (.rw true) []))) := fun a b c hx => store27 (by unfold newA; rw [Heap.get_put, if_pos rfl]) hx
    have hst := hst (vi (share (x0 0))) (vi (share (x0 1))) (vi (share (x0 2))) rfl
    refine W.seqR 6 rfl fun K all hK hall => ?_
    simp (maxSteps := 2000000) (disch := first | assumption | simp [es, Env.sz_put]) only [WO_nil, List.getElem?_cons_zero, List.getElem?_cons_succ, WO_cons, WD_nil, WD_cons, List.nil_append, List.append_nil, List.cons_append, sel, nthO, wantedA_free, wantedA_by, putA_into, putA_no, execA, opv, opvs, ofConst, ofScalar, pureR, newR, skipR, builtinA, Env.get_put, binA, arith, Nat.reduceEqDiff, Nat.reduceAdd, reduceIte, bind2, Heap.bump0, isConst, beq_self_eq_true, Bool.false_eq_true, Bool.or_true, Bool.or_false, Bool.not_true, Bool.not_false, undefA, Option.map_some, and_self, bTF, bFT, e1, e2, l24]
    refine CallK.into (r2) (by simp [es, Env.sz_put]) ?_
    simp (maxSteps := 2000000) (disch := first | assumption | simp [es, Env.sz_put]) only [WO_nil, List.getElem?_cons_zero, List.getElem?_cons_succ, WO_cons, WD_nil, WD_cons, List.nil_append, List.append_nil, List.cons_append, sel, nthO, wantedA_free, wantedA_by, putA_into, putA_no, execA, opv, opvs, ofConst, ofScalar, pureR, newR, skipR, builtinA, Env.get_put, binA, arith, Nat.reduceEqDiff, Nat.reduceAdd, reduceIte, bind2, Heap.bump0, isConst, beq_self_eq_true, Bool.false_eq_true, Bool.or_true, Bool.or_false, Bool.not_true, Bool.not_false, undefA, Option.map_some, and_self, bTF, bFT, alloc27, hst, skipR]
    subst hK; clear hall; try simp only [Then]
    have kp3 : Kp h1 ((newA h2 (h1.next + 4) [vi 0, vi 0, vi 0]).put (h1.next + 4) (some (.cells [vi (share (x0 0)), vi (share (x0 1)), vi (share (x0 2))] (.rw true) []))) := (kp12.put (Nat.le_add_right _ _) _).put (Nat.le_add_right _ _) _
    have hC3 : rdA ((newA h2 (h1.next + 4) [vi 0, vi 0, vi 0]).put (h1.next + 4) (some (.cells [vi (share (x0 0)), vi (share (x0 1)), vi (share (x0 2))] (.rw true) []))) (h1.next + 4) = [vi (share (x0 0)), vi (share (x0 1)), vi (share (x0 2))] := by
      unfold rdA
      rw [Heap.get_put, if_pos rfl]
    have hCn : h1.next + 4 < ((newA h2 (h1.next + 4) [vi 0, vi 0, vi 0]).put (h1.next + 4) (some (.cells [vi (share (x0 0)), vi (share (x0 1)), vi (share (x0 2))] (.rw true) []))).next := hnn
    generalize h1.next + 4 = C at hC3 hCn kp3
    generalize (newA h2 C [vi 0, vi 0, vi 0]).put C (some (.cells [vi (share (x0 0)), vi (share (x0 1)), vi (share (x0 2))] (.rw true) [])) = h3 at hC3 hCn kp3
    have hp3 := hp1.ext kp3
    have hB3 : rdA h3 B = [vi wd, vi hg, p] := by rw [kp3.rd hn1]; exact hB1
    have hBn3 : B < h3.next := Nat.lt_of_lt_of_le hn1 kp3.1
    have d0 : loadA Try.prog h3 2 (.ptr C 0) = some (vi (share (x0 0))) := load2 hC3 rfl
    have d1 : loadA Try.prog h3 2 (.ptr C 1) = some (vi (share (x0 1))) := load2 hC3 rfl
    have d2 : loadA Try.prog h3 2 (.ptr C 2) = some (vi (share (x0 2))) := load2 hC3 rfl
    clear hst r2 kp12 kp2 l24 lP hp1 kp1 hlen hnn
    refine W.seqA ?_
    refine W.seqR 0 rfl fun K all hK hall => ?_
    simp (maxSteps := 2000000) (disch := first | assumption | simp [es, Env.sz_put]) only [WO_nil, List.getElem?_cons_zero, List.getElem?_cons_succ, WO_cons, WD_nil, WD_cons, List.nil_append, List.append_nil, List.cons_append, sel, nthO, wantedA_free, wantedA_by, putA_into, putA_no, execA, opv, opvs, ofConst, ofScalar, pureR, newR, skipR, builtinA, Env.get_put, binA, arith, Nat.reduceEqDiff, Nat.reduceAdd, reduceIte, bind2, Heap.bump0, isConst, beq_self_eq_true, Bool.false_eq_true, Bool.or_true, Bool.or_false, Bool.not_true, Bool.not_false, undefA, Option.map_some, and_self, bTF, bFT, fb0, fb1, fb2, d0, d1, d2, parts, build29v]
    subst hK; clear hall; try simp only [Then]
    refine W.seqLoop (fun n s => ∃ i : Nat, n = 3 - i ∧ i ≤ 3 ∧ s.heap = h3 ∧ s.env.sz = 88 ∧ s.env.get 1 = vi u ∧ s.env.get 2 = vi v ∧ s.env.get 3 = .ptr B 0 ∧ s.env.get 7 = .ptr C 0 ∧ s.env.get 27 = .agg [vi (share (x0 0)), vi (share (x0 1)), vi (share (x0 2))] ∧ s.env.get 28 = vi i) 3 ⟨0, rfl, by omega, rfl, ?_, ?_, ?_, ?_, ?_, ?_, ?_⟩ ?_
    · simp only [Env.sz_put, es]
    · simp only [Env.get_put, Nat.reduceEqDiff, reduceIte, e1]
    · simp only [Env.get_put, Nat.reduceEqDiff, reduceIte, e2]
    · simp only [Env.get_put, Nat.reduceEqDiff, reduceIte]
    · simp only [Env.get_put, Nat.reduceEqDiff, reduceIte]
    · simp only [Env.get_put, Nat.reduceEqDiff, reduceIte]
    · simp only [Env.get_put, Nat.reduceEqDiff, reduceIte]; rfl
    clear e0 e1 e2 es e
    rintro n ⟨e, h4⟩ ⟨i, rfl, hi, hh, es, e1, e2, e3, e7, e27, e28⟩
    dsimp only at hh es e1 e2 e3 e7 e27 e28
    subst hh
    refine W.seqR 0 rfl fun K all hK hall => ?_
    simp (maxSteps := 2000000) (disch := first | assumption | simp [es, Env.sz_put]) only [WO_nil, List.getElem?_cons_zero, List.getElem?_cons_succ, WO_cons, WD_nil, WD_cons, List.nil_append, List.append_nil, List.cons_append, sel, nthO, wantedA_free, wantedA_by, putA_into, putA_no, execA, opv, opvs, ofConst, ofScalar, pureR, newR, skipR, builtinA, Env.get_put, binA, arith, Nat.reduceEqDiff, Nat.reduceAdd, reduceIte, bind2, Heap.bump0, isConst, beq_self_eq_true, Bool.false_eq_true, Bool.or_true, Bool.or_false, Bool.not_true, Bool.not_false, undefA, Option.map_some, and_self, bTF, bFT, e28]
    subst hK; clear hall; try simp only [Then]
    by_cases c2 : i < 3
    · have c2' : (i : Int) < 3 := by omega
      refine W.seqT (W.condT (by simp only [opv, ofConst, ofScalar, Env.get_put, Nat.reduceEqDiff, reduceIte, c2', decide_true]) ?_)
      refine W.skip ?_
      simp only [Then]
      have ixi := index29 (fun j => (share (x0 j) : Int)) i c2
      have ixi : indexA Try.prog 29 (.agg [vi (share (x0 0)), vi (share (x0 1)), vi (share (x0 2))]) (vi i) = some (vi (share (x0 i))) := ixi
      have lt := hlt i
      have sm := share_small (x0 i) lt
      have sb := share_back (x0 i) lt
      generalize x0 i = b at ixi lt sm sb
      have w1 : IntKind.i64.wrap ((share b : Int) * 255) = (share b : Int) * 255 := wrap_i (by omega) (by omega)
      have w2 : IntKind.i64.wrap ((share b : Int) * 255 + 4294967296) = (share b : Int) * 255 + 4294967296 := wrap_i (by omega) (by omega)
      have w3 : IntKind.i64.wrap ((share b : Int) * 255 + 4294967296 - 1) = (share b : Int) * 255 + 4294967296 - 1 := wrap_i (by omega) (by omega)
      have w4 : IntKind.i64.wrap ((i : Int) + 1) = ((i + 1 : Nat) : Int) := by rw [wrap_i (by omega) (by omega)]; rfl
      have n1 : ¬ (share b : Int) < 0 := by omega
      have n2 : ¬ (share b : Int) > 4294967296 := by omega
      have n3 : ((share b : Int) != (share b : Int)) = false := by simp
      have ra := of_runs (h := h4) (n := (b : Int)) (byte_in lt).1 (byte_in lt).2
      have rb := of255 h4
      have rc := div_runs h4 b lt
      refine W.seqT (W.blockT ?_)
      refine W.seqR 0 rfl fun K all hK hall => ?_
      simp (maxSteps := 2000000) (disch := first | assumption | simp [es, Env.sz_put]) only [WO_nil, List.getElem?_cons_zero, List.getElem?_cons_succ, WO_cons, WD_nil, WD_cons, List.nil_append, List.append_nil, List.cons_append, sel, nthO, wantedA_free, wantedA_by, putA_into, putA_no, execA, opv, opvs, ofConst, ofScalar, pureR, newR, skipR, builtinA, Env.get_put, binA, arith, Nat.reduceEqDiff, Nat.reduceAdd, reduceIte, bind2, Heap.bump0, isConst, beq_self_eq_true, Bool.false_eq_true, Bool.or_true, Bool.or_false, Bool.not_true, Bool.not_false, undefA, Option.map_some, and_self, bTF, bFT, e27, e28, ixi]
      subst hK; clear hall; try simp only [Then]
      refine W.seqR 0 rfl fun K all hK hall => ?_
      simp (maxSteps := 2000000) (disch := first | assumption | simp [es, Env.sz_put]) only [WO_nil, List.getElem?_cons_zero, List.getElem?_cons_succ, WO_cons, WD_nil, WD_cons, List.nil_append, List.append_nil, List.cons_append, sel, nthO, wantedA_free, wantedA_by, putA_into, putA_no, execA, opv, opvs, ofConst, ofScalar, pureR, newR, skipR, builtinA, Env.get_put, binA, arith, Nat.reduceEqDiff, Nat.reduceAdd, reduceIte, bind2, Heap.bump0, isConst, beq_self_eq_true, Bool.false_eq_true, Bool.or_true, Bool.or_false, Bool.not_true, Bool.not_false, undefA, Option.map_some, and_self, bTF, bFT, w1, w2, w3, shr_i, sb]
      subst hK; clear hall; try simp only [Then]
      refine W.seqR 0 rfl fun K all hK hall => ?_
      have g2 : (all[2]?).bind (·.dst) = some 38 := by subst hall; rfl
      have g6 : (all[6]?).bind (·.dst) = some 42 := by subst hall; rfl
      simp (maxSteps := 2000000) (disch := first | assumption | simp [es, Env.sz_put]) only [WO_nil, List.getElem?_cons_zero, List.getElem?_cons_succ, WO_cons, WD_nil, WD_cons, List.nil_append, List.append_nil, List.cons_append, sel, nthO, wantedA_free, wantedA_by, putA_into, putA_no, execA, opv, opvs, ofConst, ofScalar, pureR, newR, skipR, builtinA, Env.get_put, binA, arith, Nat.reduceEqDiff, Nat.reduceAdd, reduceIte, bind2, Heap.bump0, isConst, beq_self_eq_true, Bool.false_eq_true, Bool.or_true, Bool.or_false, Bool.not_true, Bool.not_false, undefA, Option.map_some, and_self, bTF, bFT, g2, g6, n1, n2, decide_false]
      refine CallK.into (ra) (by simp [es, Env.sz_put]) ?_
      simp (maxSteps := 2000000) (disch := first | assumption | simp [es, Env.sz_put]) only [WO_nil, List.getElem?_cons_zero, List.getElem?_cons_succ, WO_cons, WD_nil, WD_cons, List.nil_append, List.append_nil, List.cons_append, sel, nthO, wantedA_free, wantedA_by, putA_into, putA_no, execA, opv, opvs, ofConst, ofScalar, pureR, newR, skipR, builtinA, Env.get_put, binA, arith, Nat.reduceEqDiff, Nat.reduceAdd, reduceIte, bind2, Heap.bump0, isConst, beq_self_eq_true, Bool.false_eq_true, Bool.or_true, Bool.or_false, Bool.not_true, Bool.not_false, undefA, Option.map_some, and_self, bTF, bFT, g6]
      refine CallK.into (rb) (by simp [es, Env.sz_put]) ?_
      simp (maxSteps := 2000000) (disch := first | assumption | simp [es, Env.sz_put]) only [WO_nil, List.getElem?_cons_zero, List.getElem?_cons_succ, WO_cons, WD_nil, WD_cons, List.nil_append, List.append_nil, List.cons_append, sel, nthO, wantedA_free, wantedA_by, putA_into, putA_no, execA, opv, opvs, ofConst, ofScalar, pureR, newR, skipR, builtinA, Env.get_put, binA, arith, Nat.reduceEqDiff, Nat.reduceAdd, reduceIte, bind2, Heap.bump0, isConst, beq_self_eq_true, Bool.false_eq_true, Bool.or_true, Bool.or_false, Bool.not_true, Bool.not_false, undefA, Option.map_some, and_self, bTF, bFT, g6]
      refine CallK.into (rc) (by simp [es, Env.sz_put]) ?_
      simp (maxSteps := 2000000) (disch := first | assumption | simp [es, Env.sz_put]) only [WO_nil, List.getElem?_cons_zero, List.getElem?_cons_succ, WO_cons, WD_nil, WD_cons, List.nil_append, List.append_nil, List.cons_append, sel, nthO, wantedA_free, wantedA_by, putA_into, putA_no, execA, opv, opvs, ofConst, ofScalar, pureR, newR, skipR, builtinA, Env.get_put, binA, arith, Nat.reduceEqDiff, Nat.reduceAdd, reduceIte, bind2, Heap.bump0, isConst, beq_self_eq_true, Bool.false_eq_true, Bool.or_true, Bool.or_false, Bool.not_true, Bool.not_false, undefA, Option.map_some, and_self, bTF, bFT, g6, n3]
      subst hK; clear hall; try simp only [Then]
      refine W.condF (by simp only [opv, ofConst, ofScalar, Env.get_put, Nat.reduceEqDiff, reduceIte, ]) ?_
      refine W.skip ?_
      simp only [Then, BlockQ, LoopQ, EndsR, Nat.reduceEqDiff, reduceIte]
      refine W.reg 0 rfl fun K all hK hall => ?_
      simp (maxSteps := 2000000) (disch := first | assumption | simp [es, Env.sz_put]) only [WO_nil, List.getElem?_cons_zero, List.getElem?_cons_succ, WO_cons, WD_nil, WD_cons, List.nil_append, List.append_nil, List.cons_append, sel, nthO, wantedA_free, wantedA_by, putA_into, putA_no, execA, opv, opvs, ofConst, ofScalar, pureR, newR, skipR, builtinA, Env.get_put, binA, arith, Nat.reduceEqDiff, Nat.reduceAdd, reduceIte, bind2, Heap.bump0, isConst, beq_self_eq_true, Bool.false_eq_true, Bool.or_true, Bool.or_false, Bool.not_true, Bool.not_false, undefA, Option.map_some, and_self, bTF, bFT, e28, w4]
      subst hK; clear hall; try simp only [Then]
      simp only [Then, BlockQ, LoopQ, EndsR, Nat.reduceEqDiff, reduceIte]
      refine ⟨3 - (i + 1), by omega, i + 1, rfl, by omega, trivial, ?_, ?_, ?_, ?_, ?_, ?_, ?_⟩
      · simp only [Env.sz_put, es]
      · simp only [Env.get_put, Nat.reduceEqDiff, reduceIte, e1]
      · simp only [Env.get_put, Nat.reduceEqDiff, reduceIte, e2]
      · simp only [Env.get_put, Nat.reduceEqDiff, reduceIte, e3]
      · simp only [Env.get_put, Nat.reduceEqDiff, reduceIte, e7]
      · simp only [Env.get_put, Nat.reduceEqDiff, reduceIte, e27]
      · simp only [Env.get_put, Nat.reduceEqDiff, reduceIte]
    · have c2' : ¬ (i : Int) < 3 := by omega
      refine W.seqT (W.condF (by simp only [opv, ofConst, ofScalar, Env.get_put, Nat.reduceEqDiff, reduceIte, c2', decide_false]) ?_)
      refine W.exit ?_
      simp only [Then, BlockQ, LoopQ, EndsR, Nat.reduceEqDiff, reduceIte]
      obtain ⟨h5, kp5, r5⟩ := sample_runs (h := h4) (wd := wd) (hg := hg) (u := u + 4294967296) (v := v - 4294967296) hp3 hb
      rw [colr_on, hcol] at r5
      obtain ⟨h6, kp6, r6⟩ := sample_runs (h := h4) (p := .nils) (l := []) (wd := 0) (hg := 0) (u := u) (v := v) (.inl ⟨rfl, rfl⟩) (fun x hx => by cases hx)
      rw [colr_zero] at r6
      obtain ⟨h7, kp7, r7⟩ := sample_runs (h := h5) (p := .nils) (l := []) (wd := 0) (hg := 0) (u := u) (v := v) (.inl ⟨rfl, rfl⟩) (fun x hx => by cases hx)
      rw [colr_zero] at r7
      have l24 : ∀ h', Kp h4 h' → loadA Try.prog h' 24 (.ptr B 0) = some (.agg [vi wd, vi hg, p]) := fun h' hI => load24 ((hI.rd hBn3).trans hB3)
      have l27 : ∀ h', Kp h4 h' → loadA Try.prog h' 27 (.ptr C 0) = some (.agg [vi (share (x0 0)), vi (share (x0 1)), vi (share (x0 2))]) := fun h' hI => load27 ((hI.rd hCn).trans hC3)
      have kp57 := kp5.trans kp7
      have hbeq := hp3.beq wd hg
      obtain ⟨y0, hy0⟩ : ∃ y : Int, (share (x0 0) : Int) = y := ⟨_, rfl⟩
      obtain ⟨y1, hy1⟩ : ∃ y : Int, (share (x0 1) : Int) = y := ⟨_, rfl⟩
      obtain ⟨y2, hy2⟩ : ∃ y : Int, (share (x0 2) : Int) = y := ⟨_, rfl⟩
      simp only [hy0, hy1, hy2] at r5 l27
      refine W.seqM (fun o s => o = .norm ∧ s.heap = h4 ∧ s.env.sz = 88 ∧ s.env.get 1 = vi u ∧ s.env.get 2 = vi v ∧ s.env.get 3 = .ptr B 0 ∧ s.env.get 7 = .ptr C 0 ∧ s.env.get 11 = .bool (decide (Low u v))) ?_ ?_
      · refine W.reg 0 rfl fun K all hK hall => ?_
        have g2 : (all[2]?).bind (·.dst) = some 53 := by subst hall; rfl
        have g6 : (all[6]?).bind (·.dst) = some 57 := by subst hall; rfl
        have g10 : (all[10]?).bind (·.dst) = some 61 := by subst hall; rfl
        by_cases a1 : u > -9223372028264841216
        rotate_left
        · have nl : ¬ Low u v := fun lo => a1 lo.1
          simp (maxSteps := 2000000) (disch := first | assumption | simp [es, Env.sz_put]) only [WO_nil, List.getElem?_cons_zero, List.getElem?_cons_succ, WO_cons, WD_nil, WD_cons, List.nil_append, List.append_nil, List.cons_append, sel, nthO, wantedA_free, wantedA_by, putA_into, putA_no, execA, opv, opvs, ofConst, ofScalar, pureR, newR, skipR, builtinA, Env.get_put, binA, arith, Nat.reduceEqDiff, Nat.reduceAdd, reduceIte, bind2, Heap.bump0, isConst, beq_self_eq_true, Bool.false_eq_true, Bool.or_true, Bool.or_false, Bool.not_true, Bool.not_false, undefA, Option.map_some, and_self, bTF, bFT, e1, e2, g2, g6, g10, a1, decide_true, decide_false]
          subst hK; clear hall; try simp only [Then]
          refine ⟨trivial, trivial, ?_, ?_, ?_, ?_, ?_, ?_⟩
          · simp only [Env.sz_put, es]
          · simp only [Env.get_put, Nat.reduceEqDiff, reduceIte, e1]
          · simp only [Env.get_put, Nat.reduceEqDiff, reduceIte, e2]
          · simp only [Env.get_put, Nat.reduceEqDiff, reduceIte, e3]
          · simp only [Env.get_put, Nat.reduceEqDiff, reduceIte, e7]
          · simp only [Env.get_put, Nat.reduceEqDiff, reduceIte]
            rw [show decide (Low u v) = false from decide_eq_false nl]
        by_cases a2 : u < 9223372028264841215
        rotate_left
        · have nl : ¬ Low u v := fun lo => a2 lo.2.1
          simp (maxSteps := 2000000) (disch := first | assumption | simp [es, Env.sz_put]) only [WO_nil, List.getElem?_cons_zero, List.getElem?_cons_succ, WO_cons, WD_nil, WD_cons, List.nil_append, List.append_nil, List.cons_append, sel, nthO, wantedA_free, wantedA_by, putA_into, putA_no, execA, opv, opvs, ofConst, ofScalar, pureR, newR, skipR, builtinA, Env.get_put, binA, arith, Nat.reduceEqDiff, Nat.reduceAdd, reduceIte, bind2, Heap.bump0, isConst, beq_self_eq_true, Bool.false_eq_true, Bool.or_true, Bool.or_false, Bool.not_true, Bool.not_false, undefA, Option.map_some, and_self, bTF, bFT, e1, e2, g2, g6, g10, a1, a2, decide_true, decide_false]
          subst hK; clear hall; try simp only [Then]
          refine ⟨trivial, trivial, ?_, ?_, ?_, ?_, ?_, ?_⟩
          · simp only [Env.sz_put, es]
          · simp only [Env.get_put, Nat.reduceEqDiff, reduceIte, e1]
          · simp only [Env.get_put, Nat.reduceEqDiff, reduceIte, e2]
          · simp only [Env.get_put, Nat.reduceEqDiff, reduceIte, e3]
          · simp only [Env.get_put, Nat.reduceEqDiff, reduceIte, e7]
          · simp only [Env.get_put, Nat.reduceEqDiff, reduceIte]
            rw [show decide (Low u v) = false from decide_eq_false nl]
        by_cases a3 : v > -9223372028264841216
        rotate_left
        · have nl : ¬ Low u v := fun lo => a3 lo.2.2.1
          simp (maxSteps := 2000000) (disch := first | assumption | simp [es, Env.sz_put]) only [WO_nil, List.getElem?_cons_zero, List.getElem?_cons_succ, WO_cons, WD_nil, WD_cons, List.nil_append, List.append_nil, List.cons_append, sel, nthO, wantedA_free, wantedA_by, putA_into, putA_no, execA, opv, opvs, ofConst, ofScalar, pureR, newR, skipR, builtinA, Env.get_put, binA, arith, Nat.reduceEqDiff, Nat.reduceAdd, reduceIte, bind2, Heap.bump0, isConst, beq_self_eq_true, Bool.false_eq_true, Bool.or_true, Bool.or_false, Bool.not_true, Bool.not_false, undefA, Option.map_some, and_self, bTF, bFT, e1, e2, g2, g6, g10, a1, a2, a3, decide_true, decide_false]
          subst hK; clear hall; try simp only [Then]
          refine ⟨trivial, trivial, ?_, ?_, ?_, ?_, ?_, ?_⟩
          · simp only [Env.sz_put, es]
          · simp only [Env.get_put, Nat.reduceEqDiff, reduceIte, e1]
          · simp only [Env.get_put, Nat.reduceEqDiff, reduceIte, e2]
          · simp only [Env.get_put, Nat.reduceEqDiff, reduceIte, e3]
          · simp only [Env.get_put, Nat.reduceEqDiff, reduceIte, e7]
          · simp only [Env.get_put, Nat.reduceEqDiff, reduceIte]
            rw [show decide (Low u v) = false from decide_eq_false nl]
        by_cases a4 : v < 9223372028264841215
        rotate_left
        · have nl : ¬ Low u v := fun lo => a4 lo.2.2.2
          simp (maxSteps := 2000000) (disch := first | assumption | simp [es, Env.sz_put]) only [WO_nil, List.getElem?_cons_zero, List.getElem?_cons_succ, WO_cons, WD_nil, WD_cons, List.nil_append, List.append_nil, List.cons_append, sel, nthO, wantedA_free, wantedA_by, putA_into, putA_no, execA, opv, opvs, ofConst, ofScalar, pureR, newR, skipR, builtinA, Env.get_put, binA, arith, Nat.reduceEqDiff, Nat.reduceAdd, reduceIte, bind2, Heap.bump0, isConst, beq_self_eq_true, Bool.false_eq_true, Bool.or_true, Bool.or_false, Bool.not_true, Bool.not_false, undefA, Option.map_some, and_self, bTF, bFT, e1, e2, g2, g6, g10, a1, a2, a3, a4, decide_true, decide_false]
          subst hK; clear hall; try simp only [Then]
          refine ⟨trivial, trivial, ?_, ?_, ?_, ?_, ?_, ?_⟩
          · simp only [Env.sz_put, es]
          · simp only [Env.get_put, Nat.reduceEqDiff, reduceIte, e1]
          · simp only [Env.get_put, Nat.reduceEqDiff, reduceIte, e2]
          · simp only [Env.get_put, Nat.reduceEqDiff, reduceIte, e3]
          · simp only [Env.get_put, Nat.reduceEqDiff, reduceIte, e7]
          · simp only [Env.get_put, Nat.reduceEqDiff, reduceIte]
            rw [show decide (Low u v) = false from decide_eq_false nl]
        · simp (maxSteps := 2000000) (disch := first | assumption | simp [es, Env.sz_put]) only [WO_nil, List.getElem?_cons_zero, List.getElem?_cons_succ, WO_cons, WD_nil, WD_cons, List.nil_append, List.append_nil, List.cons_append, sel, nthO, wantedA_free, wantedA_by, putA_into, putA_no, execA, opv, opvs, ofConst, ofScalar, pureR, newR, skipR, builtinA, Env.get_put, binA, arith, Nat.reduceEqDiff, Nat.reduceAdd, reduceIte, bind2, Heap.bump0, isConst, beq_self_eq_true, Bool.false_eq_true, Bool.or_true, Bool.or_false, Bool.not_true, Bool.not_false, undefA, Option.map_some, and_self, bTF, bFT, e1, e2, g2, g6, g10, a1, a2, a3, a4, decide_true, decide_false]
          subst hK; clear hall; try simp only [Then]
          refine ⟨trivial, trivial, ?_, ?_, ?_, ?_, ?_, ?_⟩
          · simp only [Env.sz_put, es]
          · simp only [Env.get_put, Nat.reduceEqDiff, reduceIte, e1]
          · simp only [Env.get_put, Nat.reduceEqDiff, reduceIte, e2]
          · simp only [Env.get_put, Nat.reduceEqDiff, reduceIte, e3]
          · simp only [Env.get_put, Nat.reduceEqDiff, reduceIte, e7]
          · simp only [Env.get_put, Nat.reduceEqDiff, reduceIte]
            rw [show decide (Low u v) = true from decide_eq_true ⟨a1, a2, a3, a4⟩]
      · clear e1 e2 e3 e7 e27 e28 es e
        rintro o ⟨e, hx⟩ ⟨rfl, hh, es, e1, e2, e3, e7, e11⟩
        dsimp only at hh es e1 e2 e3 e7 e11
        subst hh
        simp only [Then]
        by_cases low : Low u v
        · have low' := low
          obtain ⟨w5, w6⟩ := low_wraps hu hv low'
          rw [show decide (Low u v) = true from decide_eq_true low] at e11
          refine W.seqI (fun h' => Kp hx h') 0 [0, 1, 2, 3, 4, 5, 6, 7, 9, 8, 10, 11, 12, 13, 14, 15, 17, 16, 18, 19, 20, 21, 22, 23] [.pure, .pure, .pure, .read, .pure, .pure, .pure, .pure, .act, .read, .pure, .pure, .pure, .pure, .pure, .pure, .act, .pure, .pure, .pure, .pure, .act, .pure, .pure] (by kernel_rfl) (by kernel_rfl) (by kernel_rfl) (by kernel_rfl) rfl rfl fun K all hK hall => ?_
          have g2 : (all[2]?).bind (·.dst) = some 67 := by subst hall; rfl
          have g12 : (all[12]?).bind (·.dst) = some 77 := by subst hall; rfl
          have g20 : (all[20]?).bind (·.dst) = some 85 := by subst hall; rfl
          simp (maxSteps := 4000000) (disch := first | assumption | simp [es, Env.sz_put]) only [WO_nil, List.getElem?_cons_zero, List.getElem?_cons_succ, WO_cons, WD_nil, WD_cons, List.nil_append, List.append_nil, List.cons_append, sel, nthO, wantedA_free, wantedA_by, putA_into, putA_no, execA, opv, opvs, ofConst, ofScalar, pureR, newR, skipR, builtinA, Env.get_put, binA, arith, Nat.reduceEqDiff, Nat.reduceAdd, reduceIte, bind2, Heap.bump0, isConst, beq_self_eq_true, Bool.false_eq_true, Bool.or_true, Bool.or_false, Bool.not_true, Bool.not_false, undefA, Option.map_some, and_self, bTF, bFT, WI_nil, WI_read, WI_pure, WI_make, WI_act, ActI_pure, ActI_make, ActI_act, true_and, sel3, nthK, e11, unA, Bool.not_true, g2]
          refine ReadI.into (v :=  .agg [vi wd, vi hg, p] ) (Kp.refl hx ) (fun h' hI => by simp (maxSteps := 4000000) (disch := first | assumption | simp [es, Env.sz_put]) only [WO_nil, List.getElem?_cons_zero, List.getElem?_cons_succ, WO_cons, WD_nil, WD_cons, List.nil_append, List.append_nil, List.cons_append, sel, nthO, wantedA_free, wantedA_by, putA_into, putA_no, execA, opv, opvs, ofConst, ofScalar, pureR, newR, skipR, builtinA, Env.get_put, binA, arith, Nat.reduceEqDiff, Nat.reduceAdd, reduceIte, bind2, Heap.bump0, isConst, beq_self_eq_true, Bool.false_eq_true, Bool.or_true, Bool.or_false, Bool.not_true, Bool.not_false, undefA, Option.map_some, and_self, bTF, bFT,  e3, l24 h' hI ]) ( hbeq) (by simp [es, Env.sz_put]) ?_
          simp (maxSteps := 4000000) (disch := first | assumption | simp [es, Env.sz_put]) only [WO_nil, List.getElem?_cons_zero, List.getElem?_cons_succ, WO_cons, WD_nil, WD_cons, List.nil_append, List.append_nil, List.cons_append, sel, nthO, wantedA_free, wantedA_by, putA_into, putA_no, execA, opv, opvs, ofConst, ofScalar, pureR, newR, skipR, builtinA, Env.get_put, binA, arith, Nat.reduceEqDiff, Nat.reduceAdd, reduceIte, bind2, Heap.bump0, isConst, beq_self_eq_true, Bool.false_eq_true, Bool.or_true, Bool.or_false, Bool.not_true, Bool.not_false, undefA, Option.map_some, and_self, bTF, bFT, WI_nil, WI_read, WI_pure, WI_make, WI_act, ActI_pure, ActI_make, ActI_act, true_and, sel3, nthK, e1, e2, g2, w5, w6]
          refine ReadI.into (v :=  .agg [vi y0, vi y1, vi y2] ) (Kp.refl hx ) (fun h' hI => by simp (maxSteps := 4000000) (disch := first | assumption | simp [es, Env.sz_put]) only [WO_nil, List.getElem?_cons_zero, List.getElem?_cons_succ, WO_cons, WD_nil, WD_cons, List.nil_append, List.append_nil, List.cons_append, sel, nthO, wantedA_free, wantedA_by, putA_into, putA_no, execA, opv, opvs, ofConst, ofScalar, pureR, newR, skipR, builtinA, Env.get_put, binA, arith, Nat.reduceEqDiff, Nat.reduceAdd, reduceIte, bind2, Heap.bump0, isConst, beq_self_eq_true, Bool.false_eq_true, Bool.or_true, Bool.or_false, Bool.not_true, Bool.not_false, undefA, Option.map_some, and_self, bTF, bFT,  e7, l27 h' hI ]) ( freeA_beq rfl) (by simp [es, Env.sz_put]) ?_
          simp (maxSteps := 4000000) (disch := first | assumption | simp [es, Env.sz_put]) only [WO_nil, List.getElem?_cons_zero, List.getElem?_cons_succ, WO_cons, WD_nil, WD_cons, List.nil_append, List.append_nil, List.cons_append, sel, nthO, wantedA_free, wantedA_by, putA_into, putA_no, execA, opv, opvs, ofConst, ofScalar, pureR, newR, skipR, builtinA, Env.get_put, binA, arith, Nat.reduceEqDiff, Nat.reduceAdd, reduceIte, bind2, Heap.bump0, isConst, beq_self_eq_true, Bool.false_eq_true, Bool.or_true, Bool.or_false, Bool.not_true, Bool.not_false, undefA, Option.map_some, and_self, bTF, bFT, WI_nil, WI_read, WI_pure, WI_make, WI_act, ActI_pure, ActI_make, ActI_act, true_and, sel3, nthK, g2]
          refine CallI.into (r5 ) (by simp [es, Env.sz_put]) ( kp5) ?_
          simp (maxSteps := 4000000) (disch := first | assumption | simp [es, Env.sz_put]) only [WO_nil, List.getElem?_cons_zero, List.getElem?_cons_succ, WO_cons, WD_nil, WD_cons, List.nil_append, List.append_nil, List.cons_append, sel, nthO, wantedA_free, wantedA_by, putA_into, putA_no, execA, opv, opvs, ofConst, ofScalar, pureR, newR, skipR, builtinA, Env.get_put, binA, arith, Nat.reduceEqDiff, Nat.reduceAdd, reduceIte, bind2, Heap.bump0, isConst, beq_self_eq_true, Bool.false_eq_true, Bool.or_true, Bool.or_false, Bool.not_true, Bool.not_false, undefA, Option.map_some, and_self, bTF, bFT, WI_nil, WI_read, WI_pure, WI_make, WI_act, ActI_pure, ActI_make, ActI_act, true_and, sel3, nthK, g2, g12, guard27, eqdv, parts, build24, build27, e1, e2]
          refine CallI.into (r7 ) (by simp [es, Env.sz_put]) ( kp57) ?_
          simp (maxSteps := 4000000) (disch := first | assumption | simp [es, Env.sz_put]) only [WO_nil, List.getElem?_cons_zero, List.getElem?_cons_succ, WO_cons, WD_nil, WD_cons, List.nil_append, List.append_nil, List.cons_append, sel, nthO, wantedA_free, wantedA_by, putA_into, putA_no, execA, opv, opvs, ofConst, ofScalar, pureR, newR, skipR, builtinA, Env.get_put, binA, arith, Nat.reduceEqDiff, Nat.reduceAdd, reduceIte, bind2, Heap.bump0, isConst, beq_self_eq_true, Bool.false_eq_true, Bool.or_true, Bool.or_false, Bool.not_true, Bool.not_false, undefA, Option.map_some, and_self, bTF, bFT, WI_nil, WI_read, WI_pure, WI_make, WI_act, ActI_pure, ActI_make, ActI_act, true_and, sel3, nthK, g20, guard27, eqdv]
          refine CallI.into (awake_runs _ ) (by simp [es, Env.sz_put]) ( kp57) ?_
          simp (maxSteps := 4000000) (disch := first | assumption | simp [es, Env.sz_put]) only [WO_nil, List.getElem?_cons_zero, List.getElem?_cons_succ, WO_cons, WD_nil, WD_cons, List.nil_append, List.append_nil, List.cons_append, sel, nthO, wantedA_free, wantedA_by, putA_into, putA_no, execA, opv, opvs, ofConst, ofScalar, pureR, newR, skipR, builtinA, Env.get_put, binA, arith, Nat.reduceEqDiff, Nat.reduceAdd, reduceIte, bind2, Heap.bump0, isConst, beq_self_eq_true, Bool.false_eq_true, Bool.or_true, Bool.or_false, Bool.not_true, Bool.not_false, undefA, Option.map_some, and_self, bTF, bFT, WI_nil, WI_read, WI_pure, WI_make, WI_act, ActI_pure, ActI_make, ActI_act, true_and, sel3, nthK, g20]
          subst hK; clear hall; try simp only [Then]
          refine W.ret ?_
          simp only [Then, BlockQ, LoopQ, EndsR, Nat.reduceEqDiff, reduceIte]
          refine ⟨_, rfl, ?_⟩
          simp only [oneOf, Env.get_put, Nat.reduceEqDiff, reduceIte]
        · rw [show decide (Low u v) = false from decide_eq_false low] at e11
          refine W.seqI (fun h' => Kp hx h') 0 [0, 1, 2, 3, 4, 5, 6, 7, 9, 8, 10, 11, 12, 13, 14, 15, 17, 16, 18, 19, 20, 21, 22, 23] [.pure, .pure, .pure, .read, .pure, .pure, .pure, .pure, .act, .read, .pure, .pure, .pure, .pure, .pure, .pure, .act, .pure, .pure, .pure, .pure, .act, .pure, .pure] (by kernel_rfl) (by kernel_rfl) (by kernel_rfl) (by kernel_rfl) rfl rfl fun K all hK hall => ?_
          have g2 : (all[2]?).bind (·.dst) = some 67 := by subst hall; rfl
          have g12 : (all[12]?).bind (·.dst) = some 77 := by subst hall; rfl
          have g20 : (all[20]?).bind (·.dst) = some 85 := by subst hall; rfl
          simp (maxSteps := 4000000) (disch := first | assumption | simp [es, Env.sz_put]) only [WO_nil, List.getElem?_cons_zero, List.getElem?_cons_succ, WO_cons, WD_nil, WD_cons, List.nil_append, List.append_nil, List.cons_append, sel, nthO, wantedA_free, wantedA_by, putA_into, putA_no, execA, opv, opvs, ofConst, ofScalar, pureR, newR, skipR, builtinA, Env.get_put, binA, arith, Nat.reduceEqDiff, Nat.reduceAdd, reduceIte, bind2, Heap.bump0, isConst, beq_self_eq_true, Bool.false_eq_true, Bool.or_true, Bool.or_false, Bool.not_true, Bool.not_false, undefA, Option.map_some, and_self, bTF, bFT, WI_nil, WI_read, WI_pure, WI_make, WI_act, ActI_pure, ActI_make, ActI_act, true_and, sel3, nthK, e11, unA, Bool.not_false, g2, g12, parts, build24, build27, e1, e2]
          refine CallI.into (r6 ) (by simp [es, Env.sz_put]) ( kp6) ?_
          simp (maxSteps := 4000000) (disch := first | assumption | simp [es, Env.sz_put]) only [WO_nil, List.getElem?_cons_zero, List.getElem?_cons_succ, WO_cons, WD_nil, WD_cons, List.nil_append, List.append_nil, List.cons_append, sel, nthO, wantedA_free, wantedA_by, putA_into, putA_no, execA, opv, opvs, ofConst, ofScalar, pureR, newR, skipR, builtinA, Env.get_put, binA, arith, Nat.reduceEqDiff, Nat.reduceAdd, reduceIte, bind2, Heap.bump0, isConst, beq_self_eq_true, Bool.false_eq_true, Bool.or_true, Bool.or_false, Bool.not_true, Bool.not_false, undefA, Option.map_some, and_self, bTF, bFT, WI_nil, WI_read, WI_pure, WI_make, WI_act, ActI_pure, ActI_make, ActI_act, true_and, sel3, nthK, g20, guard27, eqdv]
          refine CallI.into (awake_runs _ ) (by simp [es, Env.sz_put]) ( kp6) ?_
          simp (maxSteps := 4000000) (disch := first | assumption | simp [es, Env.sz_put]) only [WO_nil, List.getElem?_cons_zero, List.getElem?_cons_succ, WO_cons, WD_nil, WD_cons, List.nil_append, List.append_nil, List.cons_append, sel, nthO, wantedA_free, wantedA_by, putA_into, putA_no, execA, opv, opvs, ofConst, ofScalar, pureR, newR, skipR, builtinA, Env.get_put, binA, arith, Nat.reduceEqDiff, Nat.reduceAdd, reduceIte, bind2, Heap.bump0, isConst, beq_self_eq_true, Bool.false_eq_true, Bool.or_true, Bool.or_false, Bool.not_true, Bool.not_false, undefA, Option.map_some, and_self, bTF, bFT, WI_nil, WI_read, WI_pure, WI_make, WI_act, ActI_pure, ActI_make, ActI_act, true_and, sel3, nthK, g20]
          subst hK; clear hall; try simp only [Then]
          refine W.ret ?_
          simp only [Then, BlockQ, LoopQ, EndsR, Nat.reduceEqDiff, reduceIte]
          refine ⟨_, rfl, ?_⟩
          simp only [oneOf, Env.get_put, Nat.reduceEqDiff, reduceIte]

end Go.Proofs.Ytahdafekballcaa.AM
