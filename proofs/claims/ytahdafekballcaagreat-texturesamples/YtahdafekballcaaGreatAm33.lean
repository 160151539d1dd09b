/-
  AM, part 33: a function that defers one closure is told what its run comes to; and is run fast.
-/
import Derived.Test.YtahdafekballcaaGreatAm32
namespace Go.Proofs.YtahdafekballcaaGreat.AM
open Go Go.RowKit
set_option linter.unusedVariables false
set_option linter.unusedSimpArgs false

variable {P : Program} {X : Told}

/-! ### What is told, of two -/
def joinT (X1 X2 : Told) : Told := fun f => match X1 f with
  | some g => some g
  | none => X2 f

theorem joinT_ok {X1 X2 : Told} (h1 : ToldOK P X1) (h2 : ToldOK P X2) : ToldOK P (joinT X1 X2) := by
  intro f g hg
  unfold joinT at hg
  split at hg
  · rename_i g' hx
    obtain rfl := Option.some.inj hg
    exact h1 f _ hx
  · exact h2 f g hg

theorem joinT_hu {X1 X2 : Told} (h1 : ToldHU X1) (h2 : ToldHU X2) : ToldHU (joinT X1 X2) := by
  intro f g hg
  unfold joinT at hg
  split at hg
  · rename_i g' hx
    obtain rfl := Option.some.inj hg
    exact h1 f _ hx
  · exact h2 f g hg

/-- What is told by the one is told by the other, too. -/
def Finer (Xe Xs : Told) : Prop := ∀ f, (Xe f = none → Xs f = none) ∧ ∀ g, Xe f = some g → ∃ g', Xs f = some g' ∧ ∀ args h r, g args h = some r → g' args h = some r

theorem callA_finer {Xe Xs : Told} (hF : Finer Xe Xs) : ∀ n, CallLe (callA P Xe n) (callA P Xs n) := by
  intro n
  induction n with
  | zero => intro f args h r he; simp [callA] at he
  | succ n ih =>
    intro f args h r he
    simp only [callA] at he ⊢
    cases hx : Xe f with
    | some g =>
      rw [hx] at he
      obtain ⟨g', h1, h2⟩ := (hF f).2 g hx
      rw [h1]
      exact h2 _ _ _ he
    | none =>
      rw [hx] at he
      rw [(hF f).1 hx]
      simp only at he ⊢
      split at he
      · split at he
        · next c hb =>
          unfold bodyA at he ⊢
          split at he
          · rename_i s1 hc
            rw [codeA_le ih n n _ _ _ (Nat.le_refl _) hc]; exact he
          · rename_i s1 hc
            rw [codeA_le ih n n _ _ _ (Nat.le_refl _) hc]; exact he
          · rename_i v s1 hc
            rw [codeA_le ih n n _ _ _ (Nat.le_refl _) hc]; exact he
          · simp at he
        · exact he
      · simp at he

theorem Runs.finer {Xe Xs : Told} (hF : Finer Xe Xs) {f : FuncId} {args : List AV} {h : Heap} {r : Fin} {h' : Heap} (e : Runs P Xe f args h r h') : Runs P Xs f args h r h' := by
  obtain ⟨n, e⟩ := e
  exact ⟨n, callA_finer hF n _ _ _ _ e⟩

/-! ### One run alone -/
theorem up {n k : Nat} (hk : n ≤ k) {c : Code} {s : St} {r : Out × St} (e : codeA P (callA P X n) n c s = some r) : codeA P (callA P X k) k c s = some r := codeA_le (callA_le n k hk) n k c s r hk e

theorem Dfr.Run.one {D : Dfr P} {args : List AV} {h : Heap} {r r2 : Fin} {h' h2 : Heap} (a : D.Run X args h r h') (b : D.Run X args h r2 h2) : r = r2 ∧ h' = h2 := by
  obtain ⟨n, s1, ca, out, s3, v, o4, s4, vs, e1, e2, e3, e4, e5, e6, e7, e8, e9, rfl, rfl⟩ := a
  obtain ⟨m, t1, cb, out2, t3, v2, p4, t4, ws, f1, f2, f3, f4, f5, f6, f7, f8, f9, rfl, rfl⟩ := b
  have hn : n ≤ max n m := Nat.le_max_left _ _
  have hmm : m ≤ max n m := Nat.le_max_right _ _
  have g1 := (up hn e1).symm.trans (up hmm f1)
  obtain ⟨_, rfl⟩ := Prod.mk.inj (Option.some.inj g1)
  obtain rfl := Option.some.inj (e2.symm.trans f2)
  have g4 := (up hn e4).symm.trans (up hmm f4)
  obtain ⟨rfl, rfl⟩ := Prod.mk.inj (Option.some.inj g4)
  obtain rfl := Option.some.inj (e5.symm.trans f5)
  have g7 := (up hn e7).symm.trans (up hmm f7)
  obtain ⟨rfl, rfl⟩ := Prod.mk.inj (Option.some.inj g7)
  obtain rfl := Option.some.inj (e9.symm.trans f9)
  exact ⟨rfl, rfl⟩

theorem Dfr.Run.hu (hXu : ToldHU X) {D : Dfr P} {args : List AV} {h : Heap} {r : Fin} {h' : Heap} {E : Nat → Option AObj} {h2 : Heap} (a : D.Run X args h r h') (u : HU h E h2) : ∃ h2', D.Run X args h2 r h2' ∧ HU h' E h2' := by
  obtain ⟨n, s1, ca, out, s3, v, o4, s4, vs, e1, e2, e3, e4, e5, e6, e7, e8, e9, rfl, rfl⟩ := a
  have hC := callA_hu (P := P) hXu n
  obtain ⟨k1, f1, u1⟩ := codeA_hu hC n _ ⟨Env.init args D.fn.ntmps, h⟩ s1 .norm E h2 e1 u
  obtain ⟨k3, f3, u3⟩ := codeA_hu hC n _ _ s3 out E k1 e4 u1
  obtain ⟨k4, f4, u4⟩ := codeA_hu hC n _ _ s4 o4 E k3 e7 u3
  exact ⟨k4, ⟨n, ⟨s1.env, k1⟩, ca, out, ⟨s3.env, k3⟩, v, o4, ⟨s4.env, k4⟩, vs, f1, e2, e3, f3, e5, e6, f4, e8, resultsA_hu u4 e9, rfl, rfl⟩, u4⟩

open Classical in
noncomputable def toldD (D : Dfr P) (X0 : Told) : Told := fun f => if f = D.f then some (fun args h => if ex : ∃ p : Fin × Heap, D.Run X0 args h p.1 p.2 then some (Classical.choose ex) else none) else none

open Classical in
theorem toldD_at {D : Dfr P} {X0 : Told} {f : FuncId} {g : List AV → Heap → Option (Fin × Heap)} (h : toldD D X0 f = some g) : f = D.f ∧ ∀ args h r h', g args h = some (r, h') ↔ D.Run X0 args h r h' := by
  unfold toldD at h
  split at h
  · rename_i hf
    obtain rfl := Option.some.inj h
    refine ⟨hf, fun args h r h' => ?_⟩
    constructor
    · intro he
      have he : (if ex : ∃ p : Fin × Heap, D.Run X0 args h p.1 p.2 then some (Classical.choose ex) else none) = some (r, h') := he
      split at he
      · rename_i ex
        have := Classical.choose_spec ex
        have hc := Option.some.inj he
        rw [hc] at this
        exact this
      · cases he
    · intro he
      have ex : ∃ p : Fin × Heap, D.Run X0 args h p.1 p.2 := ⟨(r, h'), he⟩
      show (if ex : ∃ p : Fin × Heap, D.Run X0 args h p.1 p.2 then some (Classical.choose ex) else none) = some (r, h')
      rw [dif_pos ex]
      obtain ⟨q1, q2⟩ := (Classical.choose_spec ex).one he
      rw [← q1, ← q2]
  · cases h

theorem toldD_ok (hm : P.follows .mixedOrders = true) (hP : ∀ (f : FuncId) (fn : Func), P.funcs[f]? = some fn → fn.body.isNone = false → (fn.name == "runtime.NumGoroutine") = false) {X0 : Told} (hX : ToldOK P X0) (hXu : ToldHU X0) (D : Dfr P) : ToldOK P (toldD D X0) := by
  intro f g hg args h r h' he
  obtain ⟨rfl, hs⟩ := toldD_at hg
  have hr := (hs _ _ _ _).1 he
  exact ⟨⟨D.fn, D.hf, hP _ _ D.hf (by rw [D.hb]; rfl), by rw [D.hb]; rfl⟩, fun B w0 ρ w vs S hv => dfr_ok hm hP hX hXu D hr S hv⟩

theorem toldD_hu {X0 : Told} (hXu : ToldHU X0) (D : Dfr P) : ToldHU (toldD D X0) := by
  intro f g hg args h r h' E h2 he u
  obtain ⟨rfl, hs⟩ := toldD_at hg
  obtain ⟨h2', k1, k2⟩ := ((hs _ _ _ _).1 he).hu hXu u
  exact ⟨h2', (hs _ _ _ _).2 k1, k2⟩

/-! ### The same, fast -/
def onlyRet (r : Rs) : Rs :=
  match r with
  | some (.ret v, h) => some (.ret v, h)
  | _ => none

theorem onlyRet_ok {r : Rs} {x : Fin × Heap} (h : onlyRet r = some x) : r = some x := by
  unfold onlyRet at h
  split at h
  · exact h
  · cases h

theorem onlyRet_ret {r : Rs} {x : Fin × Heap} (h : onlyRet r = some x) : ∃ v, x.1 = .ret v := by
  unfold onlyRet at h
  split at h
  · obtain rfl := Option.some.inj h; exact ⟨_, rfl⟩
  · cases h

def cloD (D : Dfr P) (cl : Cl) (n : Nat) (ca : List AV) (v : AV) (e : Ev) (h : Heap) : Rs :=
  onlyRet (bif Nat.ble ca.length D.gn.ntmps && Nat.ble ca.length 512 then
    argsC ca 0 ev0 fun ec => (dstC D.gn.ntmps (some D.t6)).put ec v fun ec => (comp P D.gn.ntmps D.crest).run cl n
      (fun _ h4 => (resultsC P D.fn.results.toList).run e h4 fun vs => some (.ret (oneOf vs), h4)) (fun _ _ _ => none)
      (fun _ h4 => (resultsC P D.fn.results.toList).run e h4 fun vs => some (.ret (oneOf vs), h4)) ec h
    else none)

def runD (D : Dfr P) (cl : Cl) (n : Nat) (args : List AV) (h : Heap) : Rs :=
  match vasC D.cap.toList with
  | none => none
  | some gs => onlyRet (bif Nat.ble args.length D.fn.ntmps && Nat.ble args.length 512 then
      argsC args 0 ev0 fun e => (comp P D.fn.ntmps D.a).run cl n
        (fun e1 h1 => (dstC D.fn.ntmps (some D.t9)).put e1 (.fn D.G [] (gs e1)) fun e2 =>
          match (comp P D.fn.ntmps D.rest).run cl n (fun e3 h3 => cloD D cl n (gs e1) .nili e3 h3) (fun _ _ _ => none) (fun e3 h3 => cloD D cl n (gs e1) .nili e3 h3) e2 h1 with
          | some (.panic v, h3) => cloD D cl n (gs e1) v e2 h3
          | r => r) (fun _ _ _ => none) (fun _ _ => none) e h
      else none)

theorem cloD_ok {D : Dfr P} {cl : Cl} (hc : ClOk P X cl) {n : Nat} {ca : List AV} {v : AV} {sz : Nat} {e : Ev} {ea : Env} (rl : Rel sz e ea) {h : Heap} {r : Fin} {h' : Heap} (he : cloD D cl n ca v e h = some (r, h')) :
    ∃ m o4 s4 vs, D.t6 < (Env.init ca D.gn.ntmps).sz ∧ codeA P (callA P X m) m D.crest ⟨(Env.init ca D.gn.ntmps).put D.t6 v, h⟩ = some (o4, s4) ∧ (o4 = .norm ∨ o4 = .ret) ∧ resultsA P D.fn.results.toList ea s4.heap = some vs ∧ r = .ret (oneOf vs) ∧ h' = s4.heap := by
  obtain ⟨v0, hv0⟩ := onlyRet_ret he
  simp only at hv0
  subst hv0
  have he := onlyRet_ok he
  cases hq : Nat.ble ca.length D.gn.ntmps && Nat.ble ca.length 512 with
  | false => rw [hq] at he; cases he
  | true =>
    rw [hq, cond_true] at he
    simp only [Bool.and_eq_true, Nat.ble_eq] at hq
    obtain ⟨e1, g1, g2⟩ := argsC_ok ca 0 ev0 .nil (by omega) (fun u hu => by rw [sget_ev0 hu]; rfl) he
    have rl1 : Rel D.gn.ntmps e1 (Env.init ca D.gn.ntmps) := ⟨by show ca.length + (D.gn.ntmps - ca.length) = D.gn.ntmps; omega, g1⟩
    obtain ⟨e2, ea2, k1, k2, k3⟩ := dstC_ok rl1 (d := some D.t6) (p := (dstC D.gn.ntmps (some D.t6)).put) rfl g2
    have hsz : D.t6 < (Env.init ca D.gn.ntmps).sz := by
      simp only [putA, cond_eq_ite] at k1
      split at k1
      · rename_i hb; exact Nat.le_of_ble_eq_true hb
      · cases k1
    rw [putA_lt hsz] at k1
    obtain rfl := Option.some.inj k1
    obtain ⟨m, o4, s4, w1, w2⟩ := comp_ok hc D.crest n _ _ e2 _ h k2 k3
    refine ⟨m, o4, s4, ?_⟩
    cases o4 with
    | norm =>
      obtain ⟨e5, _, q2⟩ := w2
      obtain ⟨vs, m1, m2⟩ := resultsC_ok rl q2
      cases m2
      exact ⟨vs, hsz, w1, .inl rfl, m1, rfl, rfl⟩
    | ret =>
      obtain ⟨e5, _, q2⟩ := w2
      obtain ⟨vs, m1, m2⟩ := resultsC_ok rl q2
      cases m2
      exact ⟨vs, hsz, w1, .inr rfl, m1, rfl, rfl⟩
    | exit i => obtain ⟨_, _, q2⟩ := w2; cases q2
    | panic u => cases w2

/-- Where the results lie. -/
def resSlots : List ResultVar → List Tmp
  | [] => []
  | .tmp u :: r => u :: resSlots r
  | .cell a _ :: r => a :: resSlots r

theorem resultsA_slots {ea eb : Env} {h : Heap} : ∀ {rs : List ResultVar}, (∀ t, t ∈ resSlots rs → ea.get t = eb.get t) → resultsA P rs ea h = resultsA P rs eb h
  | [], _ => rfl
  | .tmp u :: r, hh => by
    simp only [resultsA]
    rw [resultsA_slots (rs := r) (fun t ht => hh t (.tail _ ht)), hh u (.head _)]
  | .cell a t :: r, hh => by
    simp only [resultsA]
    rw [resultsA_slots (rs := r) (fun t ht => hh t (.tail _ ht)), hh a (.head _)]

theorem runD_ok {D : Dfr P} {cl : Cl} (hc : ClOk P X cl) (hoff : (resSlots D.fn.results.toList).all (fun t => offC t D.rest) = true) {n : Nat} {args : List AV} {h : Heap} {r : Fin} {h' : Heap} (he : runD D cl n args h = some (r, h')) : D.Run X args h r h' := by
  unfold runD at he
  split at he
  · cases he
  · rename_i gs hgs
    obtain ⟨v0, hv0⟩ := onlyRet_ret he
    simp only at hv0
    subst hv0
    have he := onlyRet_ok he
    cases hq : Nat.ble args.length D.fn.ntmps && Nat.ble args.length 512 with
    | false => rw [hq] at he; cases he
    | true =>
      rw [hq, cond_true] at he
      simp only [Bool.and_eq_true, Nat.ble_eq] at hq
      obtain ⟨e0, g1, g2⟩ := argsC_ok args 0 ev0 .nil (by omega) (fun u hu => by rw [sget_ev0 hu]; rfl) he
      have rl0 : Rel D.fn.ntmps e0 (Env.init args D.fn.ntmps) := ⟨by show args.length + (D.fn.ntmps - args.length) = D.fn.ntmps; omega, g1⟩
      obtain ⟨n1, o1, s1, w1, w2⟩ := comp_ok hc D.a n _ _ e0 _ h rl0 g2
      cases o1 with
      | exit i => obtain ⟨_, _, q2⟩ := w2; cases q2
      | ret => obtain ⟨_, _, q2⟩ := w2; cases q2
      | panic u => cases w2
      | norm =>
        obtain ⟨e1, rl1, q2⟩ := w2
        have hca := vasC_ok rl1 hgs
        obtain ⟨e2, ea2, k1, rl2, k3⟩ := dstC_ok rl1 (d := some D.t9) (p := (dstC D.fn.ntmps (some D.t9)).put) rfl q2
        have hsz : D.t9 < s1.env.sz := by
          simp only [putA, cond_eq_ite] at k1
          split at k1
          · rename_i hb; exact Nat.le_of_ble_eq_true hb
          · cases k1
        rw [putA_lt hsz] at k1
        obtain rfl := Option.some.inj k1
        have close : ∀ {n3 : Nat} {out : Out} {s3 : St} {v : AV} {e3 : Ev} {eb : Env} {h3 : Heap}, codeA P (callA P X n3) n3 D.rest ⟨s1.env.put D.t9 (.fn D.G [] (gs e1)), s1.heap⟩ = some (out, s3) → rcvd out = some v → Rel D.fn.ntmps e3 eb → h3 = s3.heap →
            (∀ t, t ∈ resSlots D.fn.results.toList → eb.get t = s3.env.get t) → cloD D cl n (gs e1) v e3 h3 = some (.ret v0, h') → D.Run X args h (.ret v0) h' := by
          intro n3 out s3 v e3 eb h3 c1 c2 c3 c4 c5 c6
          subst c4
          obtain ⟨m, o4, s4, vs, d1, d2, d3, d4, d5, d6⟩ := cloD_ok hc c3 c6
          have hn1 : n1 ≤ max n1 (max n3 m) := Nat.le_max_left _ _
          have hn3 : n3 ≤ max n1 (max n3 m) := Nat.le_trans (Nat.le_max_left _ _) (Nat.le_max_right _ _)
          have hm' : m ≤ max n1 (max n3 m) := Nat.le_trans (Nat.le_max_right _ _) (Nat.le_max_right _ _)
          exact ⟨max n1 (max n3 m), s1, gs e1, out, s3, v, o4, s4, vs, up hn1 w1, hca, hsz, up hn3 c1, c2, d1, up hm' d2, d3, by rw [← resultsA_slots c5]; exact d4, d5, d6⟩
        generalize hrun : (comp P D.fn.ntmps D.rest).run cl n (fun e3 h3 => cloD D cl n (gs e1) .nili e3 h3) (fun _ _ _ => none) (fun e3 h3 => cloD D cl n (gs e1) .nili e3 h3) e2 s1.heap = rr at k3
        cases rr with
        | none => cases k3
        | some x =>
          obtain ⟨fx, hx⟩ := x
          obtain ⟨n3, o3, s3, z1, z2⟩ := comp_ok hc D.rest n _ _ e2 _ s1.heap rl2 hrun
          cases fx with
          | ret u =>
            have k3' : (some (Fin.ret u, hx) : Rs) = some (.ret v0, h') := k3
            obtain ⟨e5, e6⟩ := Prod.mk.inj (Option.some.inj k3')
            cases e5
            subst e6
            cases o3 with
            | norm =>
              obtain ⟨e3, rl3, q3⟩ := z2
              exact close z1 rfl rl3 rfl (fun _ _ => rfl) q3
            | ret =>
              obtain ⟨e3, rl3, q3⟩ := z2
              exact close z1 rfl rl3 rfl (fun _ _ => rfl) q3
            | exit i => obtain ⟨_, _, q3⟩ := z2; cases q3
            | panic w => cases z2
          | panic u =>
            have k3' : cloD D cl n (gs e1) u e2 hx = some (.ret v0, h') := k3
            have nope : ∀ {e3 : Ev} {h3 : Heap}, cloD D cl n (gs e1) .nili e3 h3 = some (Fin.panic u, hx) → False := fun hh => by
              obtain ⟨y, hy⟩ := onlyRet_ret hh
              cases hy
            cases o3 with
            | norm => obtain ⟨e3, _, q3⟩ := z2; exact (nope q3).elim
            | ret => obtain ⟨e3, _, q3⟩ := z2; exact (nope q3).elim
            | exit i => obtain ⟨_, _, q3⟩ := z2; cases q3
            | panic w =>
              have z2' : ((Fin.panic u, hx) : Fin × Heap) = (.panic w, s3.heap) := z2
              obtain ⟨z3, z4⟩ := Prod.mk.inj z2'
              cases z3
              exact close z1 rfl rl2 z4 (fun t ht => (codeA_off t n3 D.rest _ _ (List.all_eq_true.1 hoff t ht) z1).symm) k3'

/-- What is told fast. -/
def fastD (D : Dfr P) (X0 : Told) (n : Nat) : Told := fun f => bif Nat.beq f D.f then some (fun args h => runD D (callC P X0 n) n args h) else none

theorem fastD_finer {D : Dfr P} {X0 : Told} {n : Nat} (hoff : (resSlots D.fn.results.toList).all (fun t => offC t D.rest) = true) : Finer (fastD D X0 n) (toldD D X0) := by
  intro f
  unfold fastD
  cases hb : Nat.beq f D.f with
  | false =>
    refine ⟨fun _ => ?_, fun g hg => by cases hg⟩
    unfold toldD
    rw [if_neg (fun e => by rw [e] at hb; simp at hb)]
  | true =>
    obtain rfl := Nat.eq_of_beq_eq_true hb
    refine ⟨fun h => (by cases h), fun g hg => ?_⟩
    obtain rfl := Option.some.inj hg
    have : ∃ g', toldD D X0 D.f = some g' := by unfold toldD; rw [if_pos rfl]; exact ⟨_, rfl⟩
    obtain ⟨g', h1⟩ := this
    refine ⟨g', h1, fun args h r he => ?_⟩
    obtain ⟨r, h'⟩ := r
    exact ((toldD_at h1).2 _ _ _ _).2 (runD_ok (callC_ok n) hoff he)

theorem joinT_finer {X1 X2 Y1 Y2 : Told} (h1 : Finer X1 Y1) (h2 : Finer X2 Y2) : Finer (joinT X1 X2) (joinT Y1 Y2) := by
  intro f
  unfold joinT
  cases hx : X1 f with
  | none =>
    rw [(h1 f).1 hx]
    exact h2 f
  | some g =>
    obtain ⟨g', k1, k2⟩ := (h1 f).2 g hx
    rw [k1]
    exact ⟨fun h => (by cases h), fun g2 hg => by obtain rfl := Option.some.inj hg; exact ⟨g', rfl, k2⟩⟩

theorem Finer.refl (X : Told) : Finer X X := fun f => ⟨id, fun g hg => ⟨g, hg, fun _ _ _ h => h⟩⟩

end Go.Proofs.YtahdafekballcaaGreat.AM
