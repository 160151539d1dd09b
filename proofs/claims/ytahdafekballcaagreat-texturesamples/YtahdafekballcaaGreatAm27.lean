/-
  AM, part 27: what the functions come to, AM comes to: operations, code, calls.
-/
import Derived.Test.YtahdafekballcaaGreatAm26
namespace Go.Proofs.YtahdafekballcaaGreat.AM
open Go Go.RowKit
set_option linter.unusedVariables false
set_option linter.unusedSimpArgs false

variable {P : Program} {X : Told}

theorem wrap_keep {k : IntKind} {s : Nat} (h : s ≤ klim k) : k.wrap (Int.ofNat s) = Int.ofNat s := by
  have e : Int.ofNat s = (s : Int) := rfl
  rw [e]
  cases k <;> simp only [klim] at h
  · simp only [IntKind.wrap, IntKind.signed, IntKind.bits]; simp; omega
  · simp only [IntKind.wrap, IntKind.signed, IntKind.bits]; simp; omega
  · rw [IntKind.wrap_i32]; omega
  · rw [IntKind.wrap_i64]; omega
  · rw [IntKind.wrap_u8]; omega
  · simp only [IntKind.wrap, IntKind.signed, IntKind.bits]; simp; omega
  · rw [IntKind.wrap_u32]; omega
  · simp only [IntKind.wrap, IntKind.signed, IntKind.bits]; simp; omega

theorem kcode_eq {a b : IntKind} (h : Nat.beq (kcode a) (kcode b) = true) : a = b := by
  cases a <;> cases b <;> first | rfl | (exact absurd h (by decide))

theorem natOf_ok {k0 : IntKind} {a : AV} {x : Nat} (h : natOf (kcode k0) a = x + 1) : a = .int k0 (.ofNat x) := by
  cases a with
  | int ka n => cases n with
    | ofNat y =>
      have h' : (bif Nat.beq (kcode ka) (kcode k0) then Nat.succ y else 0) = x + 1 := h
      cases hb : Nat.beq (kcode ka) (kcode k0) with
      | false => rw [hb] at h'; cases h'
      | true =>
        rw [hb] at h'
        have := kcode_eq hb
        subst this
        have : y = x := Nat.succ.inj h'
        rw [this]
    | negSucc _ => cases h
  | _ => cases h

theorem nat2_ok {k0 : IntKind} {a b : AV} {f : Nat → Nat → Rs} {g : Unit → Rs} {r : Fin × Heap} (h : nat2 (kcode k0) a b f g = some r) : (∃ x y, a = .int k0 (.ofNat x) ∧ b = .int k0 (.ofNat y) ∧ f x y = some r) ∨ g () = some r := by
  unfold nat2 at h
  cases ha : natOf (kcode k0) a with
  | zero => rw [ha] at h; exact .inr h
  | succ x =>
    rw [ha] at h
    cases hb : natOf (kcode k0) b with
    | zero => rw [hb] at h; exact .inr h
    | succ y => rw [hb] at h; exact .inl ⟨x, y, natOf_ok ha, natOf_ok hb, h⟩

theorem keepN_ok {k : IntKind} {s : Nat} {f : AV → Rs} {g : Unit → Rs} {r : Fin × Heap} (h : keepN k (klim k) s f g = some r) : (s ≤ klim k ∧ f (.int k (.ofNat s)) = some r) ∨ g () = some r := by
  unfold keepN at h
  cases hb : Nat.ble s (klim k) with
  | false => rw [hb] at h; exact .inr h
  | true =>
    rw [hb, cond_true, strictN_eq] at h
    exact .inl ⟨Nat.le_of_ble_eq_true hb, h⟩

theorem slowB_ok {h : Heap} {op : BinOp} {t : TypeId} {con : Bool} {a b : AV} {k : AV → Rs} {r : Fin × Heap} (e : slowB P h op t con a b k = some r) : ∃ v, binA P h op t con a b = some v ∧ k v = some r := by
  unfold slowB at e
  split at e
  · rename_i v hv; exact ⟨v, hv, e⟩
  · cases e

theorem bool_k {b : Bool} {x y : AV} {k : AV → Rs} {r : Fin × Heap} (h : (bif b then k x else k y) = some r) : k (bif b then x else y) = some r := by
  cases b <;> exact h

theorem binI_ok {kd : IntKind} {h : Heap} {op : BinOp} {t : TypeId} {con : Bool} {a b : AV} {k : AV → Rs} {r : Fin × Heap} (e : (binI P kd (kcode kd) (klim kd) op t con).run h a b k = some r) : ∃ v, binA P h op t con a b = some v ∧ k v = some r := by
  cases op with
  | add =>
    simp only [binI] at e
    rcases nat2_ok e with ⟨x, y, rfl, rfl, e2⟩ | e2
    · rcases keepN_ok e2 with ⟨hs, e3⟩ | e3
      · refine ⟨_, ?_, e3⟩
        simp only [binA, arith, if_true]
        have : Int.ofNat x + Int.ofNat y = Int.ofNat (Nat.add x y) := rfl
        rw [this, wrap_keep hs]
      · exact slowB_ok e3
    · exact slowB_ok e2
  | mul =>
    simp only [binI] at e
    rcases nat2_ok e with ⟨x, y, rfl, rfl, e2⟩ | e2
    · rcases keepN_ok e2 with ⟨hs, e3⟩ | e3
      · refine ⟨_, ?_, e3⟩
        simp only [binA, arith, if_true]
        have : Int.ofNat x * Int.ofNat y = Int.ofNat (Nat.mul x y) := rfl
        rw [this, wrap_keep hs]
      · exact slowB_ok e3
    · exact slowB_ok e2
  | lss =>
    simp only [binI] at e
    rcases nat2_ok e with ⟨x, y, rfl, rfl, e2⟩ | e2
    · refine ⟨_, ?_, bool_k e2⟩
      simp only [binA, arith, if_true]
      congr 2
      have : (Int.ofNat x < Int.ofNat y) ↔ x < y := Int.ofNat_lt
      by_cases q : x < y
      · rw [decide_eq_true (this.mpr q), (Nat.blt_eq).mpr q]; rfl
      · have hq : Nat.blt x y = false := by cases hb : Nat.blt x y with | false => rfl | true => exact absurd ((Nat.blt_eq).mp hb) q
        rw [decide_eq_false (fun z => q (this.mp z)), hq]; rfl
    · exact slowB_ok e2
  | leq =>
    simp only [binI] at e
    rcases nat2_ok e with ⟨x, y, rfl, rfl, e2⟩ | e2
    · refine ⟨_, ?_, bool_k e2⟩
      simp only [binA, arith, if_true]
      congr 2
      have : (Int.ofNat x ≤ Int.ofNat y) ↔ x ≤ y := Int.ofNat_le
      by_cases q : x ≤ y
      · rw [decide_eq_true (this.mpr q), (Nat.ble_eq).mpr q]; rfl
      · have hq : Nat.ble x y = false := by cases hb : Nat.ble x y with | false => rfl | true => exact absurd ((Nat.ble_eq).mp hb) q
        rw [decide_eq_false (fun z => q (this.mp z)), hq]; rfl
    · exact slowB_ok e2
  | gtr =>
    simp only [binI] at e
    rcases nat2_ok e with ⟨x, y, rfl, rfl, e2⟩ | e2
    · refine ⟨_, ?_, bool_k e2⟩
      simp only [binA, arith, if_true]
      congr 2
      have : (Int.ofNat x > Int.ofNat y) ↔ y < x := Int.ofNat_lt
      by_cases q : y < x
      · rw [decide_eq_true (this.mpr q), (Nat.blt_eq).mpr q]; rfl
      · have hq : Nat.blt y x = false := by cases hb : Nat.blt y x with | false => rfl | true => exact absurd ((Nat.blt_eq).mp hb) q
        rw [decide_eq_false (fun z => q (this.mp z)), hq]; rfl
    · exact slowB_ok e2
  | geq =>
    simp only [binI] at e
    rcases nat2_ok e with ⟨x, y, rfl, rfl, e2⟩ | e2
    · refine ⟨_, ?_, bool_k e2⟩
      simp only [binA, arith, if_true]
      congr 2
      have : (Int.ofNat x ≥ Int.ofNat y) ↔ y ≤ x := Int.ofNat_le
      by_cases q : y ≤ x
      · rw [decide_eq_true (this.mpr q), (Nat.ble_eq).mpr q]; rfl
      · have hq : Nat.ble y x = false := by cases hb : Nat.ble y x with | false => rfl | true => exact absurd ((Nat.ble_eq).mp hb) q
        rw [decide_eq_false (fun z => q (this.mp z)), hq]; rfl
    · exact slowB_ok e2
  | sub =>
    simp only [binI] at e
    rcases nat2_ok e with ⟨x, y, rfl, rfl, e2⟩ | e2
    · have e' : (bif Nat.ble y x then keepN kd (klim kd) (Nat.sub x y) k (fun _ => slowB P h .sub t con (.int kd (.ofNat x)) (.int kd (.ofNat y)) k) else slowB P h .sub t con (.int kd (.ofNat x)) (.int kd (.ofNat y)) k) = some r := e2
      cases hb : Nat.ble y x with
      | false => rw [hb] at e'; exact slowB_ok e'
      | true =>
        rw [hb, cond_true] at e'
        have hle := Nat.le_of_ble_eq_true hb
        rcases keepN_ok e' with ⟨hs, e'⟩ | e'
        · refine ⟨_, ?_, e'⟩
          simp only [binA, arith, if_true]
          have e1 : Int.ofNat x - Int.ofNat y = Int.ofNat (Nat.sub x y) := by
            have : Nat.sub x y = x - y := rfl
            rw [this]; simp only [Int.ofNat_eq_natCast]; omega
          rw [e1, wrap_keep hs]
        · exact slowB_ok e'
    · exact slowB_ok e2
  | eql =>
    simp only [binI] at e
    rcases nat2_ok e with ⟨x, y, rfl, rfl, e2⟩ | e2
    · refine ⟨_, ?_, bool_k e2⟩
      simp only [binA, arith, if_true]
      congr 2
      by_cases q : x = y
      · subst q; simp
      · have hq : Nat.beq x y = false := by cases hb : Nat.beq x y with | false => rfl | true => exact absurd (Nat.eq_of_beq_eq_true hb) q
        rw [hq]
        have : (Int.ofNat x == Int.ofNat y) = false := by simp; omega
        rw [this]; rfl
    · exact slowB_ok e2
  | neq =>
    simp only [binI] at e
    rcases nat2_ok e with ⟨x, y, rfl, rfl, e2⟩ | e2
    · refine ⟨_, ?_, bool_k e2⟩
      simp only [binA, arith, if_true]
      congr 2
      by_cases q : x = y
      · subst q; simp
      · have hq : Nat.beq x y = false := by cases hb : Nat.beq x y with | false => rfl | true => exact absurd (Nat.eq_of_beq_eq_true hb) q
        rw [hq]
        have : (Int.ofNat x != Int.ofNat y) = true := by simp; omega
        rw [this]; rfl
    · exact slowB_ok e2
  | _ => exact slowB_ok e

theorem binC_ok {h : Heap} {op : BinOp} {t : TypeId} {con : Bool} {a b : AV} {k : AV → Rs} {r : Fin × Heap} (e : (binC P op t con).run h a b k = some r) : ∃ v, binA P h op t con a b = some v ∧ k v = some r := by
  unfold binC at e
  split at e
  · rename_i kd hu
    simp only [strictN_eq] at e
    exact binI_ok e
  · exact slowB_ok e

def ClOk (P : Program) (X : Told) (cl : Cl) : Prop := ∀ f args h v h', cl f args h = some (v, h') → Runs P X f args h v h'

/-- One operation, in AM's words. -/
def Stp (P : Program) (cl : Cl) (sz : Nat) (dr : Bool) (o : Oper) (fr : Nat) (ea : Env) (h : Heap) (k : Ev → Heap → Rs) (r : Fin × Heap) : Prop :=
  (∃ v h' ea' e', execA P ea h fr o = some (.val v h') ∧ putA ea o.dst v = some ea' ∧ Rel sz e' ea' ∧ k e' h' = some r) ∨
  (∃ f args v h' ea' e', execA P ea h fr o = some (.enter f args) ∧ cl f args h = some (.ret v, h') ∧ putA ea o.dst v = some ea' ∧ Rel sz e' ea' ∧ k e' h' = some r) ∨
  (dr = false ∧ ∃ f args v h', execA P ea h fr o = some (.enter f args) ∧ cl f args h = some (.panic v, h') ∧ r = (.panic v, h')) ∨
  (dr = false ∧ ∃ v, execA P ea h fr o = some (.panic v) ∧ r = (.panic v, h))

theorem resC_ok {sz : Nat} {dr : Bool} {cl : Cl} {e : Ev} {ea : Env} (rl : Rel sz e ea) {o : Oper} {p : Ev → AV → (Ev → Rs) → Rs} (hp : dstC sz o.dst = ⟨p⟩) {rs : Option Res} {h : Heap} {k : Ev → Heap → Rs} {r : Fin × Heap} {fr : Nat} (hx : ∀ q, rs = some q → execA P ea h fr o = some q) (he : resC dr cl p rs e h k = some r) : Stp P cl sz dr o fr ea h k r := by
  unfold resC at he
  split at he
  · cases he
  · rename_i v h'
    obtain ⟨e', ea', h1, h2, h3⟩ := dstC_ok rl hp he
    exact .inl ⟨v, h', ea', e', hx _ rfl, h1, h2, h3⟩
  · rename_i f args
    split at he
    · rename_i v h' hcl
      obtain ⟨e', ea', h1, h2, h3⟩ := dstC_ok rl hp he
      exact .inr (.inl ⟨f, args, v, h', ea', e', hx _ rfl, hcl, h1, h2, h3⟩)
    · rename_i v h' hcl
      cases dr with
      | true => cases he
      | false =>
        cases he
        exact .inr (.inr (.inl ⟨rfl, f, args, v, h', hx _ rfl, hcl, rfl⟩))
    · cases he
  · rename_i v
    cases dr with
    | true => cases he
    | false =>
      cases he
      exact .inr (.inr (.inr ⟨rfl, v, hx _ rfl, rfl⟩))

theorem slowC_ok {sz : Nat} {dr : Bool} {cl : Cl} {e : Ev} {ea : Env} (rl : Rel sz e ea) {o : Oper} {p : Ev → AV → (Ev → Rs) → Rs} (hp : dstC sz o.dst = ⟨p⟩) {i b : Nat} {h : Heap} {k : Ev → Heap → Rs} {r : Fin × Heap} (he : (slowC P dr p o.op i).run cl b e h k = some r) : Stp P cl sz dr o (b + i) ea h k r := by
  unfold slowC at he
  split at he
  · cases he
  · rename_i xs f ha
    split at he
    · cases he
    · rename_i gs hg
      exact resC_ok rl hp (fun q hq => apC_ok ha (vasC_ok rl hg) hq) he

theorem bodyC_ok {sz : Nat} {dr : Bool} {cl : Cl} {e : Ev} {ea : Env} (rl : Rel sz e ea) {o : Oper} {i b : Nat} {h : Heap} {k : Ev → Heap → Rs} {r : Fin × Heap} (he : (bodyC P sz dr o i).run cl b e h k = some r) : Stp P cl sz dr o (b + i) ea h k r := by
  obtain ⟨p, hp⟩ : ∃ p, dstC sz o.dst = ⟨p⟩ := ⟨_, rfl⟩
  unfold bodyC at he
  simp only [hp] at he
  revert he
  obtain ⟨d, op, ty, pos, after, g⟩ := o
  cases op with
  | move x =>
    dsimp only
    intro he
    split at he
    · rename_i g hg
      obtain ⟨e', ea', h1, h2, h3⟩ := dstC_ok rl hp he
      exact .inl ⟨_, h, ea', e', by simp only [execA, vaC_ok rl hg, pureR], h1, h2, h3⟩
    · cases he
  | assign x =>
    dsimp only
    intro he
    split at he
    · rename_i g hg
      obtain ⟨e', ea', h1, h2, h3⟩ := dstC_ok rl hp he
      exact .inl ⟨_, h, ea', e', by simp only [execA, vaC_ok rl hg, pureR], h1, h2, h3⟩
    · cases he
  | pick c x y =>
    dsimp only
    intro he
    split at he
    · rename_i gc hgc
      split at he
      · rename_i gx hgx
        split at he
        · rename_i gy hgy
          dsimp only at he
          split at he
          · rename_i hb
            obtain ⟨e', ea', h1, h2, h3⟩ := dstC_ok rl hp he
            exact .inl ⟨_, h, ea', e', by simp only [execA, vaC_ok rl hgc, hb, vaC_ok rl hgx, pureR, if_true], h1, h2, h3⟩
          · rename_i hb
            obtain ⟨e', ea', h1, h2, h3⟩ := dstC_ok rl hp he
            exact .inl ⟨_, h, ea', e', by simp only [execA, vaC_ok rl hgc, hb, vaC_ok rl hgy, pureR, Bool.false_eq_true, if_false], h1, h2, h3⟩
          · cases he
        · cases he
      · cases he
    · cases he
  | binOp op t x y z =>
    dsimp only
    intro he
    split at he
    · rename_i gx hgx
      split at he
      · rename_i gy hgy
        obtain ⟨v, hv, hk⟩ := binC_ok (P := P) (op := op) (t := t) (con := isConst x || isConst y) he
        obtain ⟨e', ea', h1, h2, h3⟩ := dstC_ok rl hp hk
        exact .inl ⟨v, h, ea', e', by simp only [execA, vaC_ok rl hgx, vaC_ok rl hgy, bind2, hv, pureR], h1, h2, h3⟩
      · cases he
    · cases he
  | load ty x =>
    dsimp only
    intro he
    split at he
    · rename_i g hg
      dsimp only at he
      split at he
      · rename_i v hv
        obtain ⟨e', ea', h1, h2, h3⟩ := dstC_ok rl hp he
        exact .inl ⟨v, h, ea', e', by simp only [execA, vaC_ok rl hg, hv, pureR], h1, h2, h3⟩
      · cases he
    · cases he
  | fieldAddr ty x n =>
    dsimp only
    intro he
    split at he
    · rename_i g hg
      dsimp only at he
      split at he
      · rename_i v hv
        obtain ⟨e', ea', h1, h2, h3⟩ := dstC_ok rl hp he
        exact .inl ⟨v, h, ea', e', by simp only [execA, vaC_ok rl hg, hv, pureR], h1, h2, h3⟩
      · cases he
    · cases he
  | field ty x n =>
    dsimp only
    intro he
    split at he
    · rename_i g hg
      dsimp only at he
      split at he
      · rename_i v hv
        obtain ⟨e', ea', h1, h2, h3⟩ := dstC_ok rl hp he
        exact .inl ⟨v, h, ea', e', by simp only [execA, vaC_ok rl hg, hv, pureR], h1, h2, h3⟩
      · cases he
    · cases he
  | extract x n =>
    dsimp only
    intro he
    split at he
    · rename_i g hg
      dsimp only at he
      split at he
      · rename_i l hl
        split at he
        · rename_i v hv
          obtain ⟨e', ea', h1, h2, h3⟩ := dstC_ok rl hp he
          exact .inl ⟨v, h, ea', e', by simp only [execA, vaC_ok rl hg, hl, hv, pureR], h1, h2, h3⟩
        · cases he
      · cases he
    · cases he
  | indexAddr ty x y =>
    dsimp only
    intro he
    split at he
    · rename_i gx hgx
      split at he
      · rename_i gy hgy
        dsimp only at he
        split at he
        · rename_i v hv
          obtain ⟨e', ea', h1, h2, h3⟩ := dstC_ok rl hp he
          exact .inl ⟨v, h, ea', e', by simp only [execA, vaC_ok rl hgx, vaC_ok rl hgy, bind2, hv, pureR], h1, h2, h3⟩
        · cases he
      · cases he
    · cases he
  | store ty x y =>
    dsimp only
    intro he
    split at he
    · rename_i gx hgx
      split at he
      · rename_i gy hgy
        dsimp only at he
        split at he
        · rename_i h' hv
          obtain ⟨e', ea', h1, h2, h3⟩ := dstC_ok rl hp he
          exact .inl ⟨undefA, h', ea', e', by simp only [execA, vaC_ok rl hgx, vaC_ok rl hgy, bind2, hv, skipR], h1, h2, h3⟩
        · cases he
      · cases he
    · cases he
  | _ => exact fun he => slowC_ok rl hp he

/-- One operation behind its guard, in AM's words. -/
def GStp (P : Program) (cl : Cl) (sz : Nat) (dr : Bool) (all : Array Oper) (o : Oper) (fr : Nat) (ea : Env) (h : Heap) (k : Ev → Heap → Rs) (r : Fin × Heap) : Prop :=
  (wantedA all ea o = some true ∧ Stp P cl sz dr o fr ea h k r) ∨ (wantedA all ea o = some false ∧ ∃ ea' e', putA ea o.dst undefA = some ea' ∧ Rel sz e' ea' ∧ k e' h = some r)

theorem guardC_ok {sz : Nat} {dr : Bool} {cl : Cl} {e : Ev} {ea : Env} (rl : Rel sz e ea) {all : Array Oper} {o : Oper} {q : OF} {b fr : Nat} {h : Heap} {k : Ev → Heap → Rs} {r : Fin × Heap} (hq : q.run cl b e h k = some r → Stp P cl sz dr o fr ea h k r) (he : (guardC sz all o q).run cl b e h k = some r) : GStp P cl sz dr all o fr ea h k r := by
  obtain ⟨p, hp⟩ : ∃ p, dstC sz o.dst = ⟨p⟩ := ⟨_, rfl⟩
  unfold guardC at he
  simp only [hp] at he
  split at he
  · rename_i hg
    refine .inl ⟨?_, hq he⟩
    unfold wantedA; rw [hg]
  · rename_i j want hg
    have hw : wantedA all ea o = match (all[j]?).bind (·.dst) with
      | none => some false
      | some d => bif Nat.blt d ea.sz then
          match ea.get d with
          | .bool b => some (b == want)
          | .junk => none
          | _ => some false
        else none := by unfold wantedA; rw [hg]; rfl
    try dsimp only at he
    split at he
    · rename_i hd
      rw [hd] at hw
      obtain ⟨e', ea', h1, h2, h3⟩ := dstC_ok rl hp he
      exact .inr ⟨hw, ea', e', h1, h2, h3⟩
    · rename_i d hd
      rw [hd] at hw
      cases hb : Nat.blt d sz && Nat.blt d 512 with
      | false => rw [hb] at he; cases he
      | true =>
        rw [hb] at he
        simp only [Bool.and_eq_true, Nat.blt_eq] at hb
        have hlt : Nat.blt d ea.sz = true := by rw [Nat.blt_eq, rl.1]; exact hb.1
        simp only [hlt, cond_true, rl.2 d hb.2] at hw
        cases want with
        | true =>
          have he' : (match (sl d).get e with
              | .bool true => q.run cl b e h k
              | .junk => none
              | _ => p e undefA fun e => k e h) = some r := he
          rw [sl_get] at he'
          revert he' hw
          generalize sget d e = gv
          intro hw he'
          cases gv with
          | bool x =>
            cases x with
            | true => exact .inl ⟨hw, hq he'⟩
            | false =>
              obtain ⟨e', ea', h1, h2, h3⟩ := dstC_ok rl hp he'
              exact .inr ⟨hw, ea', e', h1, h2, h3⟩
          | junk => cases he'
          | _ =>
            obtain ⟨e', ea', h1, h2, h3⟩ := dstC_ok rl hp he'
            exact .inr ⟨hw, ea', e', h1, h2, h3⟩
        | false =>
          have he' : (match (sl d).get e with
              | .bool false => q.run cl b e h k
              | .junk => none
              | _ => p e undefA fun e => k e h) = some r := he
          rw [sl_get] at he'
          revert he' hw
          generalize sget d e = gv
          intro hw he'
          cases gv with
          | bool x =>
            cases x with
            | false => exact .inl ⟨hw, hq he'⟩
            | true =>
              obtain ⟨e', ea', h1, h2, h3⟩ := dstC_ok rl hp he'
              exact .inr ⟨hw, ea', e', h1, h2, h3⟩
          | junk => cases he'
          | _ =>
            obtain ⟨e', ea', h1, h2, h3⟩ := dstC_ok rl hp he'
            exact .inr ⟨hw, ea', e', h1, h2, h3⟩

/-- What is left of a run behind a region. -/
def QK (sz : Nat) (k : Ev → Heap → Rs) (r : Fin × Heap) (o : Out) (s : St) : Prop :=
  match o with
  | .norm => ∃ e', Rel sz e' s.env ∧ k e' s.heap = some r
  | .panic v => r = (.panic v, s.heap)
  | _ => False

theorem opsC_ok {sz : Nat} {cl : Cl} (hc : ClOk P X cl) {all : Array Oper} {b : Nat} {k : Ev → Heap → Rs} {r : Fin × Heap} : ∀ (os : List Oper) (i : Nat) (e : Ev) (ea : Env) (h : Heap), Rel sz e ea → (opsC P sz all os i).run cl b e h k = some r → WO P X all os (b + i) ea h (QK sz k r)
  | [], i, e, ea, h, rl, he => ⟨e, rl, he⟩
  | o :: os, i, e, ea, h, rl, he => by
    have he' : (guardC sz all o (bodyC P sz false o i)).run cl b e h (fun e h => (opsC P sz all os (i + 1)).run cl b e h k) = some r := he
    rw [WO_cons]
    rcases guardC_ok (P := P) (dr := false) (fr := b + i) rl (fun q => bodyC_ok rl q) he' with ⟨hw, st⟩ | ⟨hw, ea', e', h1, h2, h3⟩
    · rw [hw]
      rcases st with ⟨v, h', ea', e', k1, k2, k3, k4⟩ | ⟨f, args, v, h', ea', e', k1, k2, k3, k4, k5⟩ | ⟨_, f, args, v, h', k1, k2, k3⟩ | ⟨_, v, k1, k2⟩
      · simp only [k1, k2]
        exact opsC_ok hc os (i + 1) e' ea' h' k3 k4
      · simp only [k1]
        exact .inl ⟨v, h', ea', hc _ _ _ _ _ k2, k3, opsC_ok hc os (i + 1) e' ea' h' k4 k5⟩
      · simp only [k1]
        exact .inr ⟨v, h', hc _ _ _ _ _ k2, k3⟩
      · simp only [k1]
        exact k2
    · rw [hw]
      simp only [h1]
      exact opsC_ok hc os (i + 1) e' ea' h h2 h3

end Go.Proofs.YtahdafekballcaaGreat.AM
