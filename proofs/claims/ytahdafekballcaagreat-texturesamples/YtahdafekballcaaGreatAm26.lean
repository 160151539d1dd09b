/-
  AM, part 26: what the functions come to, AM comes to.
-/
import Derived.Test.YtahdafekballcaaGreatAm25
import Derived.IntWalk
namespace Go.Proofs.YtahdafekballcaaGreat.AM
open Go Go.RowKit
set_option linter.unusedVariables false
set_option linter.unusedSimpArgs false

variable {P : Program} {X : Told}

def Rel (sz : Nat) (e : Ev) (ea : Env) : Prop := ea.sz = sz ∧ ∀ t, t < 512 → ea.get t = sget t e

theorem Rel.put {sz : Nat} {e : Ev} {ea : Env} (r : Rel sz e ea) {d : Nat} (hd : d < 512) (v : AV) : Rel sz (sset d e v) (ea.put d v) :=
  ⟨r.1, fun t ht => by rw [Env.get_put, sget_sset ht hd, r.2 t ht]⟩

theorem dstC_ok {sz : Nat} {e : Ev} {ea : Env} (rl : Rel sz e ea) {d : Option Tmp} {p : Ev → AV → (Ev → Rs) → Rs} (hp : dstC sz d = ⟨p⟩) {v : AV} {k : Ev → Rs} {r : Fin × Heap} (h : p e v k = some r) :
    ∃ e' ea', putA ea d v = some ea' ∧ Rel sz e' ea' ∧ k e' = some r := by
  have h : (dstC sz d).put e v k = some r := by rw [hp]; exact h
  clear hp
  cases d with
  | none => exact ⟨e, ea, rfl, rl, h⟩
  | some d =>
    simp only [dstC] at h
    cases hb : Nat.blt d sz && Nat.blt d 512 with
    | false => rw [hb] at h; simp at h
    | true =>
      rw [hb] at h
      simp only [Bool.and_eq_true, Nat.blt_eq] at hb
      have h2 : (sl d).put e v k = some r := h
      rw [sl_put hb.2] at h2
      refine ⟨_, ea.put d v, ?_, rl.put hb.2 v, h2⟩
      unfold putA
      have : Nat.blt d ea.sz = true := by rw [Nat.blt_eq, rl.1]; exact hb.1
      simp only [this, cond_true]

theorem vaC_ok {sz : Nat} {e : Ev} {ea : Env} (rl : Rel sz e ea) {x : Operand} {g : Ev → AV} (h : vaC x = some g) : opv ea x = some (g e) := by
  cases x with
  | tmp t =>
    simp only [vaC] at h
    cases hb : Nat.blt t 512 with
    | false => rw [hb] at h; simp at h
    | true =>
      rw [hb] at h
      rw [Nat.blt_eq] at hb
      have h2 : some (sl t).get = some g := h
      cases h2
      simp only [opv, rl.2 t hb]
      rfl
  | const v =>
    simp only [vaC] at h
    split at h
    · rename_i a ha
      cases h
      simp only [opv, ha]
    · cases h
  | global g => cases h
  | func f => cases h; rfl

theorem vasC_ok {sz : Nat} {e : Ev} {ea : Env} (rl : Rel sz e ea) : ∀ {xs : List Operand} {gs : Ev → List AV}, vasC xs = some gs → opvs ea xs = some (gs e)
  | [], gs, h => by cases h; rfl
  | x :: xs, gs, h => by
    unfold vasC at h
    split at h
    · cases h
    · rename_i g hg
      split at h
      · cases h
      · rename_i gs' hgs
        cases h
        simp only [opvs, vaC_ok rl hg, vasC_ok rl hgs]

theorem parts_zip {ea : Env} : ∀ {ps : List (Nat × Operand)} {vs : List AV}, opvs ea (ps.map (·.2)) = some vs → parts ea ps = some (List.zip (ps.map (·.1)) vs)
  | [], vs, h => by simp only [List.map_nil, opvs, Option.some.injEq] at h; subst h; rfl
  | (i, x) :: ps, vs, h => by
    simp only [List.map_cons, opvs] at h
    split at h
    · cases h
    · rename_i v hv
      split at h
      · cases h
      · rename_i vs' hvs
        cases h
        simp only [parts, hv, parts_zip hvs, List.map_cons, List.zip_cons_cons]

theorem opvs_append {ea : Env} : ∀ {xs ys : List Operand} {vs : List AV}, opvs ea (xs ++ ys) = some vs → opvs ea xs = some (vs.take xs.length) ∧ opvs ea ys = some (vs.drop xs.length)
  | [], ys, vs, h => ⟨by simp [opvs], by simpa using h⟩
  | x :: xs, ys, vs, h => by
    simp only [List.cons_append, opvs] at h
    split at h
    · cases h
    · rename_i v hv
      split at h
      · cases h
      · rename_i vs' hvs
        cases h
        obtain ⟨h1, h2⟩ := opvs_append hvs
        refine ⟨?_, by simpa using h2⟩
        simp only [opvs, hv, h1, List.length_cons, List.take_succ_cons]

theorem opvs1 {ea : Env} {x : Operand} {vs : List AV} (h : opvs ea [x] = some vs) : ∃ a, vs = [a] ∧ opv ea x = some a := by
  simp only [opvs] at h
  split at h
  · cases h
  · rename_i v hv; cases h; exact ⟨v, rfl, hv⟩
theorem opvs2 {ea : Env} {x y : Operand} {vs : List AV} (h : opvs ea [x, y] = some vs) : ∃ a b, vs = [a, b] ∧ opv ea x = some a ∧ opv ea y = some b := by
  simp only [opvs] at h
  split at h
  · cases h
  · rename_i v hv
    split at h
    · cases h
    · rename_i w hw
      cases h
      split at hw
      · cases hw
      · rename_i u hu; cases hw; exact ⟨v, u, rfl, hv, hu⟩
theorem opvs3 {ea : Env} {x y z : Operand} {vs : List AV} (h : opvs ea [x, y, z] = some vs) : ∃ a b c, vs = [a, b, c] ∧ opv ea x = some a ∧ opv ea y = some b ∧ opv ea z = some c := by
  rw [opvs] at h
  split at h
  · cases h
  · rename_i v hv
    split at h
    · cases h
    · rename_i w hw
      cases h
      obtain ⟨b, c, rfl, h1, h2⟩ := opvs2 hw
      exact ⟨v, b, c, rfl, hv, h1, h2⟩

theorem apC_ok {ea : Env} {h : Heap} {fr : Nat} {o : Oper} {A : AF} (ha : apC P o.op = some A) {vs : List AV} (hv : opvs ea A.xs = some vs) {r : Res} (hr : A.run fr h vs = some r) : execA P ea h fr o = some r := by
  obtain ⟨d, op, ty, pos, after, g⟩ := o
  cases op with
  | alloc t => cases ha; simpa only [execA] using hr
  | box t x =>
    cases ha
    obtain ⟨a, rfl, h1⟩ := opvs1 hv
    simp only [execA, h1]; exact hr
  | build t ps =>
    cases ha
    simp only [execA, parts_zip hv]; exact hr
  | buildSlice t n ps =>
    cases ha
    simp only [execA, parts_zip hv]; exact hr
  | load t a =>
    cases ha
    obtain ⟨a, rfl, h1⟩ := opvs1 hv
    simp only [execA, h1]; exact hr
  | store t a x =>
    cases ha
    obtain ⟨a, b, rfl, h1, h2⟩ := opvs2 hv
    simp only [execA, h1, h2, bind2]; exact hr
  | nilCheck x =>
    cases ha
    obtain ⟨a, rfl, h1⟩ := opvs1 hv
    simp only [execA, h1]
    revert hr
    dsimp only
    cases a <;> first | exact fun hr => hr | (intro hr; cases hr)
  | binOp b t x y z =>
    cases ha
    obtain ⟨a, b, rfl, h1, h2⟩ := opvs2 hv
    simp only [execA, h1, h2, bind2]; exact hr
  | unOp b t x =>
    cases ha
    obtain ⟨a, rfl, h1⟩ := opvs1 hv
    simp only [execA, h1]; exact hr
  | convert s d x =>
    cases ha
    obtain ⟨a, rfl, h1⟩ := opvs1 hv
    simp only [execA, h1]; exact hr
  | makeInterface t x =>
    simp only [apC] at ha
    split at ha
    · cases ha
    · rename_i u hne hu
      cases ha
      obtain ⟨a, rfl, h1⟩ := opvs1 hv
      simp only [execA, hu, h1]
      cases u <;> first | exact hr | exact (hne _ rfl).elim
    · cases ha
  | makeFunc fn first captured =>
    cases fn with
    | func f =>
      cases ha
      obtain ⟨h1, h2⟩ := opvs_append hv
      simp only [execA, h1, h2]; exact hr
    | _ => cases ha
  | makeMap t n =>
    cases n with
    | none => cases ha; simpa only [execA] using hr
    | some _ => cases ha
  | makeSlice t l c =>
    cases ha
    obtain ⟨a, b, rfl, h1, h2⟩ := opvs2 hv
    simp only [execA, h1, h2, bind2]; exact hr
  | slice t x lo hi mx =>
    cases mx with
    | some _ => cases lo <;> cases hi <;> cases ha
    | none =>
      cases lo with
      | none =>
        cases hi with
        | none =>
          cases ha
          obtain ⟨a, rfl, h1⟩ := opvs1 hv
          simp only [execA, h1, opvO]; exact hr
        | some hi =>
          cases ha
          obtain ⟨a, b, rfl, h1, h2⟩ := opvs2 hv
          simp only [execA, h1, h2, opvO, Option.map_some]; exact hr
      | some lo =>
        cases hi with
        | none =>
          cases ha
          obtain ⟨a, b, rfl, h1, h2⟩ := opvs2 hv
          simp only [execA, h1, h2, opvO, Option.map_some]; exact hr
        | some hi =>
          cases ha
          obtain ⟨a, b, c, rfl, h1, h2, h3⟩ := opvs3 hv
          simp only [execA, h1, h2, h3, opvO, Option.map_some]; exact hr
  | fieldAddr t x f =>
    cases ha
    obtain ⟨a, rfl, h1⟩ := opvs1 hv
    simp only [execA, h1]; exact hr
  | field t x f =>
    cases ha
    obtain ⟨a, rfl, h1⟩ := opvs1 hv
    simp only [execA, h1]; exact hr
  | indexAddr t x i =>
    cases ha
    obtain ⟨a, b, rfl, h1, h2⟩ := opvs2 hv
    simp only [execA, h1, h2, bind2]; exact hr
  | index t x i =>
    cases ha
    obtain ⟨a, b, rfl, h1, h2⟩ := opvs2 hv
    simp only [execA, h1, h2, bind2]; exact hr
  | lookup t m k ok =>
    cases ha
    obtain ⟨a, b, rfl, h1, h2⟩ := opvs2 hv
    simp only [execA, h1, h2, bind2]; exact hr
  | mapUpdate t m k v =>
    cases ha
    obtain ⟨a, b, c, rfl, h1, h2, h3⟩ := opvs3 hv
    simp only [execA, h1, h2, h3, bind2]; exact hr
  | insert t m k v =>
    cases ha
    obtain ⟨a, b, c, rfl, h1, h2, h3⟩ := opvs3 hv
    simp only [execA, h1, h2, h3, bind2]; exact hr
  | typeAssert x a b c =>
    cases ha
    obtain ⟨a, rfl, h1⟩ := opvs1 hv
    simp only [execA, h1]; exact hr
  | extract t i =>
    cases ha
    obtain ⟨a, rfl, h1⟩ := opvs1 hv
    simp only [execA, h1]
    revert hr
    dsimp only
    cases a <;> first | exact fun hr => hr | (intro hr; cases hr)
  | call c =>
    obtain ⟨callee, args, tys⟩ := c
    cases callee with
    | builtin b =>
      cases ha
      simp only [execA, hv]; exact hr
    | value f =>
      cases f with
      | func f =>
        cases ha
        simp only [execA, hv, opv]
        exact hr
      | tmp t =>
        cases ha
        rw [opvs] at hv
        split at hv
        · cases hv
        · rename_i v hv1
          split at hv
          · cases hv
          · rename_i ws hws
            cases hv
            simp only [execA, hws, hv1]
            revert hr
            dsimp only
            cases v <;> first | exact fun hr => hr | (intro hr; cases hr)
      | const t =>
        cases ha
        rw [opvs] at hv
        split at hv
        · cases hv
        · rename_i v hv1
          split at hv
          · cases hv
          · rename_i ws hws
            cases hv
            simp only [execA, hws, hv1]
            revert hr
            dsimp only
            cases v <;> first | exact fun hr => hr | (intro hr; cases hr)
      | global t =>
        cases ha
        rw [opvs] at hv
        split at hv
        · cases hv
        · rename_i v hv1
          cases hv1
    | invoke a b => cases ha
  | panic x =>
    cases ha
    obtain ⟨a, rfl, h1⟩ := opvs1 hv
    simp only [execA, h1]
    revert hr
    dsimp only
    cases a <;> first | exact fun hr => hr | (intro hr; cases hr)
  | sliceToArrayPointer arr x =>
    cases ha
    obtain ⟨a, rfl, h1⟩ := opvs1 hv
    simp only [execA, h1]
    exact hr
  | range t x =>
    simp only [apC] at ha
    split at ha
    · rename_i hu
      cases ha
      obtain ⟨a, rfl, h1⟩ := opvs1 hv
      simp only [execA, hu, h1]
      revert hr
      dsimp only
      cases a <;> first | exact fun hr => hr | (intro hr; cases hr)
    · cases ha
  | next it str =>
    cases str with
    | false => cases ha
    | true =>
      cases ha
      obtain ⟨a, rfl, h1⟩ := opvs1 hv
      simp only [execA, h1]
      exact hr
  | _ => cases ha

end Go.Proofs.YtahdafekballcaaGreat.AM
