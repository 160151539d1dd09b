/-
  AM, part 32: a function that defers one closure, which recovers.
-/
import Derived.Recover
import Derived.Test.YtahdafekballcaaGreatAm31
namespace Go.Proofs.YtahdafekballcaaGreat.AM
open Go Go.RowKit
set_option linter.unusedVariables false
set_option linter.unusedSimpArgs false

variable {P : Program} {X : Told}

/-- The shape: some code; the closure is made and deferred; the rest. The closure: recover, and the rest. -/
structure Dfr (P : Program) where
  f : FuncId
  G : FuncId
  fn : Func
  gn : Func
  a : Code
  rest : Code
  crest : Code
  id : Nat
  id2 : Nat
  mko : Oper
  df : Oper
  rc : Oper
  t9 : Tmp
  t6 : Tmp
  cap : Array Operand
  dc : Call
  rcc : Call
  hf : P.funcs[f]? = some fn
  hg : P.funcs[G]? = some gn
  hb : fn.body = some (.seq a (.seq (.region id #[mko, df] false) rest))
  hgb : gn.body = some (.seq (.region id2 #[rc] false) crest)
  hmk : mko.op = .makeFunc (.func G) #[] cap ∧ mko.guard = none ∧ mko.dst = some t9
  hdf : df.op = .defer dc ∧ df.guard = none ∧ df.dst = none
  hdc : dc.callee = .value (.tmp t9) ∧ dc.args = #[]
  hrc : rc.op = .call rcc ∧ rc.guard = none ∧ rc.dst = some t6
  hrcc : rcc.callee = .builtin .recover ∧ rcc.args = #[]
  hgr : gn.results = #[]
  ht9 : t9 < fn.ntmps
  ht6 : t6 < gn.ntmps

/-- What the closure's recover yields. -/
def rcvd : Out → Option AV
  | .norm => some .nili
  | .ret => some .nili
  | .panic v => some v
  | _ => none

/-- A call of it. -/
def Dfr.Run (D : Dfr P) (X : Told) (args : List AV) (h : Heap) (r : Fin) (h' : Heap) : Prop :=
  ∃ n s1 ca out s3 v o4 s4 vs, codeA P (callA P X n) n D.a ⟨Env.init args D.fn.ntmps, h⟩ = some (.norm, s1) ∧ opvs s1.env D.cap.toList = some ca ∧ D.t9 < s1.env.sz ∧
    codeA P (callA P X n) n D.rest ⟨s1.env.put D.t9 (.fn D.G [] ca), s1.heap⟩ = some (out, s3) ∧ rcvd out = some v ∧ D.t6 < (Env.init ca D.gn.ntmps).sz ∧
    codeA P (callA P X n) n D.crest ⟨(Env.init ca D.gn.ntmps).put D.t6 v, s3.heap⟩ = some (o4, s4) ∧ (o4 = .norm ∨ o4 = .ret) ∧
    resultsA P D.fn.results.toList s3.env s4.heap = some vs ∧ r = .ret (oneOf vs) ∧ h' = s4.heap

theorem putA_lt {e : Env} {d : Tmp} (h : d < e.sz) (v : AV) : putA e (some d) v = some (e.put d v) := by
  show (bif Nat.blt d e.sz then some (e.put d v) else none) = _
  rw [show Nat.blt d e.sz = true from Nat.ble_eq_true_of_le h]
  rfl

theorem dfr_ok (hm : P.follows .mixedOrders = true) (hP : ∀ (f : FuncId) (fn : Func), P.funcs[f]? = some fn → fn.body.isNone = false → (fn.name == "runtime.NumGoroutine") = false) (hX : ToldOK P X) (hXu : ToldHU X) (D : Dfr P)
    {args : List AV} {h : Heap} {r : Fin} {h' : Heap} (e : D.Run X args h r h') {B : Nat} {w0 : World} {ρ : Rho} {w : World} {xs : Array Value} (S : Sim B w0 ρ h w) (hv : VRL ρ args xs.toList) : Calls P D.f xs w (CallPost B w0 ρ h r h') := by
  obtain ⟨n, s1, ca, out, s3, v, o4, s4, vs, e1, e2, e3, e4, e5, e6, e7, e8, e9, rfl, rfl⟩ := e
  have hC := callA_ok hm hP hX hXu n
  have hH := callA_hu (P := P) hXu n
  refine calls_of_wp_defers D.hf D.hb ?_
  refine wp_seq ?_
  refine wp_mono (codeA_ok hm hC hH n D.a _ s1 .norm e1 B w0 ρ { tmps := xs ++ Array.replicate (D.fn.ntmps - xs.size) undef, defers := [] } w S (Env.init_fr hv D.fn.ntmps)) fun x1 a1 w1 hp => ?_
  obtain ⟨ρ1, q1, S1, x1e, x1l, x1n, F1, d1⟩ := hp
  cases x1 <;> first | exact q1.elim | skip
  show Code.wp P _ _ _ _
  refine wp_seq (wp_region ?_)
  obtain ⟨m1, m2, m3⟩ := D.hmk
  obtain ⟨f1, f2, f3⟩ := D.hdf
  obtain ⟨c1, c2⟩ := D.hdc
  have hlist : List.range (#[D.mko, D.df] : Array Oper).size = [0, 1] := rfl
  rw [hlist]
  have capR : VRL ρ1 ca (D.cap.map a1.eval).toList := by rw [Array.toList_map]; exact opvs_ok F1 e2
  have rmk : (execOp a1.eval D.mko).run P w1 = .ok (.value (.func (.func D.G) #[] (D.cap.map a1.eval))) w1 := by
    unfold execOp
    rw [m1]
    simp [Instr.makeFunc]
  have F2 : FR ρ1 (s1.env.put D.t9 (.fn D.G [] ca)) (a1.put D.mko.dst (.func (.func D.G) #[] (D.cap.map a1.eval))).tmps := F1.put (d := D.mko.dst) (by rw [m3]; exact putA_lt e3 _) (.fn _ _ _ _ _ .nil capR)
  generalize ha2 : a1.put D.mko.dst (.func (.func D.G) #[] (D.cap.map a1.eval)) = a2 at F2
  have d2 : a2.defers = [] := by rw [← ha2, Act.put_defers', d1]
  have hev : a2.eval (.tmp D.t9) = .func (.func D.G) #[] (D.cap.map a1.eval) := by
    have := F1.size
    rw [← ha2, m3]
    show (a1.tmps.setIfInBounds D.t9 _).getD D.t9 undef = _
    have hlt : D.t9 < a1.tmps.size := by rw [this]; exact e3
    rw [Array.getD_eq_getD_getElem?, Array.getElem?_setIfInBounds, if_pos rfl, if_pos hlt]
    rfl
  have rdf : (execOp a2.eval D.df).run P w1 = .ok (.defer { target := .fn (.func D.G) (D.cap.map a1.eval), args := #[] ++ (#[] : Array Value) }) w1 := by
    unfold execOp
    rw [f1]
    simp only [resolve, c1, c2, Sem.run_bind, hev, Deferred.ofValue, Sem.run_pure, Result.andThen_ok, Array.map_empty]
  have w1' : Region.wanted D.mko (yielded #[D.mko, D.df] a1.tmps) = true := by unfold Region.wanted; rw [m2]
  have w2' : Region.wanted D.df (yielded #[D.mko, D.df] a2.tmps) = true := by unfold Region.wanted; rw [f2]
  show wpOps P _ _ _ _ _
  have i0 : (#[D.mko, D.df] : Array Oper)[0]? = some D.mko := rfl
  have i1 : (#[D.mko, D.df] : Array Oper)[1]? = some D.df := rfl
  simp only [wpOps, i0, i1]
  rw [if_pos w1']
  refine .inl ?_
  unfold Oper.wp
  rw [rmk]
  show (if _ then _ else _)
  rw [ha2, if_pos w2']
  refine .inl ?_
  show Oper.upon P D.df a2 _ _ (Sem.run P (execOp a2.eval D.df) w1)
  rw [rdf, Oper.upon_defer, f3]
  generalize hd : ({ target := .fn (.func D.G) (D.cap.map a1.eval), args := #[] ++ (#[] : Array Value) } : Deferred) = d
  show Code.wp P _ _ _ _
  have F3 : FR ρ1 (s1.env.put D.t9 (.fn D.G [] ca)) ({ a2 with defers := d :: a2.defers } : Act).tmps := F2
  refine wp_mono (codeA_ok hm hC hH n D.rest _ s3 out e4 B w0 ρ1 { a2 with defers := d :: a2.defers } w1 S1 F3) fun x3 a3 w3 hp => ?_
  obtain ⟨ρ3, q3, S3, x3e, x3l, x3n, G3, d3⟩ := hp
  have d3 : a3.defers = [d] := by rw [d3, d2]
  have hEnt : Enterable P D.G := ⟨D.gn, D.hg, hP _ _ D.hg (by rw [D.hgb]; rfl), by rw [D.hgb]; rfl⟩
  have capR3 : VRL ρ3 ca (D.cap.map a1.eval).toList := capR.mono x3e
  have hinv : ∀ w, (invoke (.fn (.func D.G) (D.cap.map a1.eval)) (#[] ++ (#[] : Array Value))).run P w = .ok (.enter D.G (D.cap.map a1.eval)) w := fun w => by
    simp only [invoke]
    rw [callFunc_run hEnt]
    simp
  -- behind the closure: what is left
  have door : ∀ (u u2 : FrameMode) (v' : Value), u ≠ .run → VR ρ3 v v' →
      (recoverD [({ (default : Frame) with mode := u } : Frame)] = some (v', [({ (default : Frame) with mode := u2 } : Frame)]) ∧ settle u2 = .returning ∨ u = .returning ∧ v' = .nilIface ∧ u2 = .returning) →
      (∀ (c₀ : Frame) (cs : List Frame), c₀.mode = u → (match recoverD (c₀ :: cs) with | some (x, cs') => x = v' ∧ cs' = { c₀ with mode := u2 } :: cs | none => v' = .nilIface ∧ u2 = u)) → settle u2 = .returning →
      Leaves P D.fn a3.tmps (CallPost B w0 ρ h (.ret (oneOf vs)) s4.heap) [d] u w3 := by
    intro u u2 v' hu hvv _ hrec hset
    rw [← hd]
    refine leaves_cons (f := D.G) (args := D.cap.map a1.eval) hu (hinv w3) ?_
    refine callsD_of_wpS D.hg D.hgb fun c₀ cs hc => ?_
    obtain ⟨r1, r2, r3⟩ := D.hrc
    obtain ⟨b1, b2⟩ := D.hrcc
    generalize hac : ({ tmps := D.cap.map a1.eval ++ Array.replicate (D.gn.ntmps - (D.cap.map a1.eval).size) undef, defers := [] } : Act) = ac
    refine wpS_seq (wpS_region ?_)
    have hl : List.range (#[D.rc] : Array Oper).size = [0] := rfl
    rw [hl]
    have i0 : (#[D.rc] : Array Oper)[0]? = some D.rc := rfl
    simp only [wpOpsS, i0]
    have w3' : Region.wanted D.rc (yielded #[D.rc] ac.tmps) = true := by unfold Region.wanted; rw [r2]
    rw [if_pos w3']
    have rrc : (execOp ac.eval D.rc).run P w3 = .ok .recover w3 := by
      unfold execOp
      rw [r1]
      simp only [resolve, b1, b2, Sem.run_bind, Sem.run_pure, Result.andThen_ok, invoke, builtin]
    rw [rrc]
    have Fc : FR ρ3 (Env.init ca D.gn.ntmps) ac.tmps := by rw [← hac]; exact Env.init_fr capR3 D.gn.ntmps
    have dc0 : ac.defers = [] := by rw [← hac]
    have fin : ∀ cs', cs' = { c₀ with mode := u2 } :: cs → Code.wpS P D.crest (bodyPostS P D.gn c₀ cs fun
        | .returned _, u', w' => Leaves P D.fn a3.tmps (CallPost B w0 ρ h (.ret (oneOf vs)) s4.heap) [] (settle u') w'
        | .panicked chain, u', w' => Leaves P D.fn a3.tmps (CallPost B w0 ρ h (.ret (oneOf vs)) s4.heap) [] (raised u' chain) w'
        | .outgrown, _, w' => CallPost B w0 ρ h (.ret (oneOf vs)) s4.heap .outgrown w') (ac.put D.rc.dst v') cs' w3 := by
      rintro cs' rfl
      refine wpS_of_wp ?_
      have F4 : FR ρ3 ((Env.init ca D.gn.ntmps).put D.t6 v) (ac.put D.rc.dst v').tmps := Fc.put (d := D.rc.dst) (by rw [r3]; exact putA_lt e6 _) hvv
      refine wp_mono (codeA_ok hm hC hH n D.crest _ s4 o4 e7 B w0 ρ3 (ac.put D.rc.dst v') w3 S3 F4) fun x4 a4 w4 hp => ?_
      obtain ⟨ρ4, q4, S4, x4e, x4l, x4n, G4, d4⟩ := hp
      have d4 : a4.defers = [] := by rw [d4, Act.put_defers', dc0]
      have G3' : FR ρ4 s3.env a3.tmps := G3.mono x4e
      obtain ⟨v5, k1, k2⟩ := results_ok S4 G3' e9
      obtain ⟨v6, k3, _⟩ := results_ok (fn := D.gn) S4 G4 (vs := []) (by rw [D.hgr]; rfl)
      have post : CallPost B w0 ρ h (.ret (oneOf vs)) s4.heap (.returned v5) w4 := by
        have z1 : h.next ≤ s1.heap.next := x1n
        have z3 : s1.heap.next ≤ s3.heap.next := x3n
        have z4 : s3.heap.next ≤ s4.heap.next := x4n
        have y3 : ∀ b, b < s1.heap.next → ρ3 b = ρ1 b := x3l
        have y4 : ∀ b, b < s3.heap.next → ρ4 b = ρ3 b := x4l
        refine ⟨ρ4, S4, (x1e.trans x3e).trans x4e, fun b hb => ?_, by omega, k2⟩
        rw [y4 b (by omega), y3 b (by omega), x1l b hb]
      have last : a4.defers = [] ∧ ∃ u', ({ c₀ with mode := u2 } :: cs : List Frame) = { c₀ with mode := u' } :: cs ∧ ∃ v, (results D.gn a4.tmps).run P w4 = .ok v w4 ∧ Leaves P D.fn a3.tmps (CallPost B w0 ρ h (.ret (oneOf vs)) s4.heap) [] (settle u') w4 :=
        ⟨d4, u2, rfl, v6, k3, by rw [hset]; exact ⟨v5, k1, post⟩⟩
      rcases e8 with rfl | rfl <;> cases x4 <;> first | exact q4.elim | exact last
    have hr := hrec c₀ cs hc
    cases hrd : recoverD (c₀ :: cs) with
    | none =>
      rw [hrd] at hr
      obtain ⟨rfl, rfl⟩ := hr
      exact fin _ (by rw [← hc])
    | some x =>
      obtain ⟨x, cs'⟩ := x
      rw [hrd] at hr
      obtain ⟨rfl, rfl⟩ := hr
      exact fin _ rfl
  cases out with
  | norm =>
    cases e5
    cases x3 <;> first | exact q3.elim | skip
    show Leaves P D.fn a3.tmps _ a3.defers .returning w3
    rw [d3]
    exact door .returning .returning .nilIface (by simp) .nili (.inr ⟨rfl, rfl, rfl⟩) (fun c₀ cs hc => by
      have : recoverD (c₀ :: cs) = none := by simp [recoverD, hc]
      rw [this]; exact ⟨rfl, rfl⟩) rfl
  | ret =>
    cases e5
    cases x3 <;> first | exact q3.elim | skip
    show Leaves P D.fn a3.tmps _ a3.defers .returning w3
    rw [d3]
    exact door .returning .returning .nilIface (by simp) .nili (.inr ⟨rfl, rfl, rfl⟩) (fun c₀ cs hc => by
      have : recoverD (c₀ :: cs) = none := by simp [recoverD, hc]
      rw [this]; exact ⟨rfl, rfl⟩) rfl
  | panic pv =>
    cases e5
    cases x3 <;> first | exact q3.elim | skip
    obtain ⟨v', rfl, hvv⟩ := q3
    show Leaves P D.fn a3.tmps _ a3.defers (.panicking [{ v := v', recovered := false }]) w3
    rw [d3]
    refine door (.panicking [{ v := v', recovered := false }]) (.panicking [{ v := v', recovered := true }]) v' (by simp) hvv (.inl ⟨rfl, rfl⟩) (fun c₀ cs hc => ?_) rfl
    have : recoverD (c₀ :: cs) = some (v', { c₀ with mode := .panicking [{ v := v', recovered := true }] } :: cs) := by
      simp [recoverD, hc]
    rw [this]
    exact ⟨rfl, rfl⟩
  | exit id => cases e5

end Go.Proofs.YtahdafekballcaaGreat.AM
