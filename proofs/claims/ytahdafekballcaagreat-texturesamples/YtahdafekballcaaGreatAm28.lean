/-
  AM, part 28: what the functions come to, AM comes to: regions that draw, code, calls.
-/
import Derived.Test.YtahdafekballcaaGreatAm27
namespace Go.Proofs.YtahdafekballcaaGreat.AM
open Go Go.RowKit
set_option linter.unusedVariables false
set_option linter.unusedSimpArgs false

variable {P : Program} {X : Told}

/-- All pairs of numbers of which the second one does not stand behind the first one. -/
def loosePairs (n : Nat) (d : List (List Nat)) : List (Nat × Nat) := (List.range n).flatMap fun i => ((List.range n).filter fun j => !(depsAt d j).contains i).map fun j => (i, j)

theorem pin_mem {a b : Nat} : ∀ {l : List (Nat × Nat)}, pin l a b = true ↔ (a, b) ∈ l
  | [] => by simp [pin]
  | (x, y) :: l => by
    simp only [pin, Bool.or_eq_true, Bool.and_eq_true, Nat.beq_eq, pin_mem (l := l), List.mem_cons, Prod.mk.injEq]
    constructor
    · rintro (⟨h1, h2⟩ | h)
      · exact .inl ⟨h1.symm, h2.symm⟩
      · exact .inr h
    · rintro (⟨h1, h2⟩ | h)
      · exact .inl ⟨h1.symm, h2.symm⟩
      · exact .inr h

theorem mem_loose {n : Nat} {d : List (List Nat)} {a b : Nat} : (a, b) ∈ loosePairs n d ↔ a < n ∧ b < n ∧ (depsAt d b).contains a = false := by
  unfold loosePairs
  simp only [List.mem_flatMap, List.mem_range, List.mem_map, List.mem_filter, Prod.mk.injEq, Bool.not_eq_true']
  constructor
  · rintro ⟨i, hi, j, ⟨hj, hd⟩, rfl, rfl⟩; exact ⟨hi, hj, hd⟩
  · rintro ⟨h1, h2, h3⟩; exact ⟨a, h1, b, ⟨h2, h3⟩, rfl, rfl⟩

theorem loose_ok {ops : Array Oper} {ord : List Nat} (h : ord.all (fun i => Nat.blt i ops.size) = true) : looseOk P ops ord (loosePairs ops.size (depsOf ops)) = true := by
  unfold looseOk
  rw [List.all_eq_true]
  intro i hi
  rw [List.all_eq_true]
  intro j hj
  have h1 := List.all_eq_true.mp h i hi
  have h2 := List.all_eq_true.mp h j hj
  rw [Nat.blt_eq] at h1 h2
  cases hc : (depsAt (depsOf ops) j).contains i with
  | true => simp
  | false =>
    have : pin (loosePairs ops.size (depsOf ops)) i j = true := pin_mem.mpr (mem_loose.mpr ⟨h1, h2, hc⟩)
    simp [this]

/-- A check stands for a read. -/
def CkOk (P : Program) (b : Nat) (rs : List Ck) (qs : List Rd) : Prop := ∀ q, q ∈ qs → ∃ c, c ∈ rs ∧ c.i = q.i ∧ ∀ h2, c.run h2 = true → Again P b h2 q

theorem checks_still {n : Nat} {d : List (List Nat)} {c b : Nat} {h : Heap} {rs : List Ck} (hk : checks d c h rs = true) : ∀ {qs : List Rd}, CkOk P b rs qs → Still P (loosePairs n d) b h c qs
  | [], _ => trivial
  | q :: qs, ok => by
    refine ⟨?_, checks_still hk fun x hx => ok x (List.mem_cons_of_mem _ hx)⟩
    split
    · rename_i hp
      obtain ⟨ck, hm, hi, hr⟩ := ok q List.mem_cons_self
      have hd := (mem_loose.mp (pin_mem.mp hp)).2.2
      have : ∀ (l : List Ck), checks d c h l = true → ∀ x, x ∈ l → (depsAt d c).contains x.i = true ∨ x.run h = true := by
        intro l
        induction l with
        | nil => intro _ x hx; cases hx
        | cons y l ih =>
          intro hl x hx
          simp only [checks, Bool.and_eq_true, Bool.or_eq_true] at hl
          rcases List.mem_cons.mp hx with rfl | hx
          · exact hl.1
          · exact ih hl.2 x hx
      rcases this rs hk ck hm with h1 | h1
      · rw [hi, hd] at h1; cases h1
      · exact hr h h1
    · trivial

def QN (sz : Nat) (k : Ev → Heap → Rs) (r : Fin × Heap) (o : Out) (s : St) : Prop :=
  match o with
  | .norm => ∃ e', Rel sz e' s.env ∧ k e' s.heap = some r
  | _ => False

theorem readC_ok {sz : Nat} {cl : Cl} {all : Array Oper} {o : Oper} {i b : Nat} {g : Cl → Nat → Ev → Heap → List Ck → (Ev → Heap → Rs) → Rs} {e : Ev} {ea : Env} (rl : Rel sz e ea) {h : Heap} {rs : List Ck} {k : Ev → Heap → Rs} {r : Fin × Heap}
    (he : (readC P sz all o i g).run cl b e h rs k = some r) : o.guard = none ∧ ∃ v h' ea' e' ck, execA P ea h (b + i) o = some (.val v h') ∧ putA ea o.dst v = some ea' ∧ Rel sz e' ea' ∧ g cl b e' h' (ck :: rs) k = some r ∧ ck.i = i ∧ ∀ h2, ck.run h2 = true → Again P b h2 ⟨i, o, ea, v⟩ := by
  obtain ⟨p, hp⟩ : ∃ p, dstC sz o.dst = ⟨p⟩ := ⟨_, rfl⟩
  unfold readC at he
  simp only [hp] at he
  split at he
  · cases he
  · rename_i hg
    refine ⟨hg, ?_⟩
    try dsimp only at he
    split at he
    · cases he
    · rename_i xs f ha
      split at he
      · cases he
      · rename_i gs hgs
        dsimp only at he
        split at he
        · rename_i v h' hf
          obtain ⟨e', ea', h1, h2, h3⟩ := dstC_ok rl hp he
          refine ⟨v, h', ea', e', _, apC_ok ha (vasC_ok rl hgs) hf, h1, h2, h3, rfl, fun h2 hr => ?_⟩
          dsimp only at hr
          split at hr
          · rename_i v2 h3 hf2
            exact ⟨v2, h3, apC_ok ha (vasC_ok rl hgs) hf2, hr⟩
          · cases hr
        · cases he

theorem execA_guard {ea : Env} {h : Heap} {fr : Nat} {o : Oper} {g : Option (Nat × Bool)} : execA P ea h fr { o with guard := g } = execA P ea h fr o := by
  obtain ⟨d, op, ty, pos, after, gd⟩ := o
  cases op <;> rfl

theorem readG_ok {sz : Nat} {cl : Cl} {all : Array Oper} {o : Oper} {i b : Nat} {g : Cl → Nat → Ev → Heap → List Ck → (Ev → Heap → Rs) → Rs} {e : Ev} {ea : Env} (rl : Rel sz e ea) {h : Heap} {rs : List Ck} {k : Ev → Heap → Rs} {r : Fin × Heap}
    (he : (readG P sz all o i g).run cl b e h rs k = some r) : (wantedA all ea o = some true ∧ ∃ v h' ea' e' ck, execA P ea h (b + i) o = some (.val v h') ∧ putA ea o.dst v = some ea' ∧ Rel sz e' ea' ∧ g cl b e' h' (ck :: rs) k = some r ∧ ck.i = i ∧ ∀ h2, ck.run h2 = true → Again P b h2 ⟨i, o, ea, v⟩) ∨
      (wantedA all ea o = some false ∧ ∃ ea' e', putA ea o.dst undefA = some ea' ∧ Rel sz e' ea' ∧ g cl b e' h rs k = some r) := by
  obtain ⟨p, hp⟩ : ∃ p, dstC sz o.dst = ⟨p⟩ := ⟨_, rfl⟩
  unfold readG at he
  simp only [hp] at he
  split at he
  · rename_i hg
    refine .inl ⟨?_, (readC_ok rl he).2⟩
    unfold wantedA; rw [hg]
  · rename_i j want hg
    have hw : wantedA all ea o = match (all[j]?).bind (·.dst) with
      | none => some false
      | some d => bif Nat.blt d ea.sz then
          match ea.get d with
          | .bool b => some (b == want)
          | .junk => none
          | _ => some false
        else none := by unfold wantedA; rw [hg]; rfl
    have hq : (readC P sz all { o with guard := none } i g).run cl b e h rs k = some r → ∃ v h' ea' e' ck, execA P ea h (b + i) o = some (.val v h') ∧ putA ea o.dst v = some ea' ∧ Rel sz e' ea' ∧ g cl b e' h' (ck :: rs) k = some r ∧ ck.i = i ∧ ∀ h2, ck.run h2 = true → Again P b h2 ⟨i, o, ea, v⟩ := fun q => by
      obtain ⟨_, v, h', ea', e', ck, k1, k2, k3, k4, k5, k6⟩ := readC_ok rl q
      rw [execA_guard] at k1
      refine ⟨v, h', ea', e', ck, k1, k2, k3, k4, k5, fun h2 hr => ?_⟩
      obtain ⟨v', h'', m1, m2⟩ := k6 h2 hr
      dsimp only at m1 m2
      rw [execA_guard] at m1
      exact ⟨v', h'', m1, m2⟩
    try dsimp only at he
    split at he
    · rename_i hd
      rw [hd] at hw
      obtain ⟨e', ea', h1, h2, h3⟩ := dstC_ok rl hp he
      exact .inr ⟨hw, ea', e', h1, h2, h3⟩
    · rename_i d hd
      rw [hd] at hw
      cases hb : Nat.blt d sz && Nat.blt d 512 with
      | false => rw [hb] at he; cases he
      | true =>
        rw [hb] at he
        simp only [Bool.and_eq_true, Nat.blt_eq] at hb
        have hlt : Nat.blt d ea.sz = true := by rw [Nat.blt_eq, rl.1]; exact hb.1
        simp only [hlt, cond_true, rl.2 d hb.2] at hw
        cases want with
        | true =>
          have he' : (match (sl d).get e with
              | .bool true => (readC P sz all { o with guard := none } i g).run cl b e h rs k
              | .junk => none
              | _ => p e undefA fun e => g cl b e h rs k) = some r := he
          rw [sl_get] at he'
          revert he' hw
          generalize sget d e = gv
          intro hw he'
          cases gv with
          | bool x =>
            cases x with
            | true => exact .inl ⟨hw, hq he'⟩
            | false =>
              obtain ⟨e', ea', h1, h2, h3⟩ := dstC_ok rl hp he'
              exact .inr ⟨hw, ea', e', h1, h2, h3⟩
          | junk => cases he'
          | _ =>
            obtain ⟨e', ea', h1, h2, h3⟩ := dstC_ok rl hp he'
            exact .inr ⟨hw, ea', e', h1, h2, h3⟩
        | false =>
          have he' : (match (sl d).get e with
              | .bool false => (readC P sz all { o with guard := none } i g).run cl b e h rs k
              | .junk => none
              | _ => p e undefA fun e => g cl b e h rs k) = some r := he
          rw [sl_get] at he'
          revert he' hw
          generalize sget d e = gv
          intro hw he'
          cases gv with
          | bool x =>
            cases x with
            | false => exact .inl ⟨hw, hq he'⟩
            | true =>
              obtain ⟨e', ea', h1, h2, h3⟩ := dstC_ok rl hp he'
              exact .inr ⟨hw, ea', e', h1, h2, h3⟩
          | junk => cases he'
          | _ =>
            obtain ⟨e', ea', h1, h2, h3⟩ := dstC_ok rl hp he'
            exact .inr ⟨hw, ea', e', h1, h2, h3⟩

theorem drawsC_ok {sz : Nat} {cl : Cl} (hc : ClOk P X cl) {all : Array Oper} {ks : List Kd} {d : List (List Nat)} {n b : Nat} {k : Ev → Heap → Rs} {r : Fin × Heap} : ∀ (l : List Nat) (e : Ev) (ea : Env) (h : Heap) (rs : List Ck) (qs : List Rd), Rel sz e ea → CkOk P b rs qs → (drawsC P sz all ks d l).run cl b e h rs k = some r → WR P X (loosePairs n d) all b (sel3 all.toList ks l) qs ea h (QN sz k r)
  | [], e, ea, h, rs, qs, rl, ok, he => ⟨e, rl, he⟩
  | i :: l, e, ea, h, rs, qs, rl, ok, he => by
    unfold drawsC at he
    split at he
    · cases he
    · rename_i o ho
      dsimp only at he
      simp only [sel3, ho]
      rw [WR_cons]
      have other : ∀ (kd : Kd) (he : (guardC sz all o (bodyC P sz true o i)).run (fun _ _ _ => none) b e h (fun e h => (drawsC P sz all ks d l).run cl b e h rs k) = some r), kd ≠ .act → kd ≠ .read → match wantedA all ea o with
          | none => False
          | some false => match putA ea o.dst undefA with
            | none => False
            | some e' => WR P X (loosePairs n d) all b (sel3 all.toList ks l) qs e' h (QN sz k r)
          | some true => match execA P ea h (b + i) o with
            | none => False
            | some (.val v h') => match putA ea o.dst v with
              | none => False
              | some e' => StillIf P (loosePairs n d) b h' i qs kd ∧ WR P X (loosePairs n d) all b (sel3 all.toList ks l) (kept kd ⟨i, o, ea, v⟩ qs) e' h' (QN sz k r)
            | some (.enter f args) => CallR P X (loosePairs n d) all b i o kd (sel3 all.toList ks l) qs ea h o.dst f args (QN sz k r)
            | some (.panic v) => False := by
        intro kd he hna hnr
        rcases guardC_ok (P := P) (dr := true) (fr := b + i) rl (fun q => bodyC_ok rl q) he with ⟨hw, st⟩ | ⟨hw, ea', e', h1, h2, h3⟩
        · rw [hw]
          rcases st with ⟨v, h', ea', e', k1, k2, k3, k4⟩ | ⟨f, args, v, h', ea', e', k1, k2, k3, k4, k5⟩ | ⟨z, _⟩ | ⟨z, _⟩
          · simp only [k1, k2]
            refine ⟨?_, ?_⟩
            · cases kd <;> first | trivial | exact absurd rfl hna
            · have : kept kd ⟨i, o, ea, v⟩ qs = qs := by cases kd <;> first | rfl | exact absurd rfl hnr
              rw [this]
              exact drawsC_ok hc l e' ea' h' rs qs k3 ok k4
          · cases k2
          · cases z
          · cases z
        · rw [hw]
          simp only [h1]
          exact drawsC_ok hc l e' ea' h rs qs h2 ok h3
      cases hk : nthK ks i with
      | pure => rw [hk] at he; exact other .pure he (fun z => by cases z) (fun z => by cases z)
      | make => rw [hk] at he; exact other .make he (fun z => by cases z) (fun z => by cases z)
      | read =>
        rw [hk] at he
        rcases readG_ok (P := P) rl he with ⟨hw, v, h', ea', e', ck, k1, k2, k3, k4, k5, k6⟩ | ⟨hw, ea', e', k1, k2, k3⟩
        · rw [hw]
          simp only [k1, k2]
          refine ⟨trivial, drawsC_ok hc l e' ea' h' (ck :: rs) (⟨i, o, ea, v⟩ :: qs) k3 ?_ k4⟩
          intro q hq
          rcases List.mem_cons.mp hq with rfl | hq
          · exact ⟨ck, List.mem_cons_self, k5, k6⟩
          · obtain ⟨c, m1, m2⟩ := ok q hq
            exact ⟨c, List.mem_cons_of_mem _ m1, m2⟩
        · rw [hw]
          simp only [k1]
          exact drawsC_ok hc l e' ea' h rs qs k2 ok k3
      | act =>
        rw [hk] at he
        have he' : (guardC sz all o (bodyC P sz true o i)).run cl b e h (fun e h => bif checks d i h rs then (drawsC P sz all ks d l).run cl b e h rs k else none) = some r := he
        have un : ∀ {e2 : Ev} {h2 : Heap}, (bif checks d i h2 rs then (drawsC P sz all ks d l).run cl b e2 h2 rs k else none) = some r → checks d i h2 rs = true ∧ (drawsC P sz all ks d l).run cl b e2 h2 rs k = some r := fun {e2 h2} q => by
          cases hcq : checks d i h2 rs with
          | false => rw [hcq] at q; cases q
          | true => rw [hcq] at q; exact ⟨rfl, q⟩
        rcases guardC_ok (P := P) (dr := true) (fr := b + i) rl (fun q => bodyC_ok rl q) he' with ⟨hw, st⟩ | ⟨hw, ea', e', h1, h2, h3⟩
        · rw [hw]
          rcases st with ⟨v, h', ea', e', k1, k2, k3, k4⟩ | ⟨f, args, v, h', ea', e', k1, k2, k3, k4, k5⟩ | ⟨z, _⟩ | ⟨z, _⟩
          · obtain ⟨u1, u2⟩ := un k4
            simp only [k1, k2]
            exact ⟨checks_still u1 ok, drawsC_ok hc l e' ea' h' rs qs k3 ok u2⟩
          · obtain ⟨u1, u2⟩ := un k5
            simp only [k1]
            exact ⟨v, h', ea', hc _ _ _ _ _ k2, k3, checks_still u1 ok, drawsC_ok hc l e' ea' h' rs qs k4 ok u2⟩
          · cases z
          · cases z
        · obtain ⟨u1, u2⟩ := un h3
          rw [hw]
          simp only [h1]
          exact drawsC_ok hc l e' ea' h rs qs h2 ok u2

theorem drawC_ok {sz : Nat} {cl : Cl} (hc : ClOk P X cl) {id : Nat} {ops : Array Oper} {k : Ev → Heap → Rs} {r : Fin × Heap} {e : Ev} {ea : Env} {h : Heap} (rl : Rel sz e ea) (he : (drawC P sz ops).run cl h.next e (h.bump (reserve ops)) k = some r) : W P X (.region id ops true) ⟨ea, h⟩ (QN sz k r) := by
  unfold drawC at he
  split at he
  · rename_i hb
    rw [Bool.and_eq_true] at hb
    have he' : (drawsC P sz ops (ops.toList.map (kindOf P)) (depsOf ops) (canon P ops)).run cl h.next e (h.bump (reserve ops)) [] k = some r := he
    exact W.regionR (s := ⟨ea, h⟩) (pairs := loosePairs ops.size (depsOf ops)) hb.1 rfl (loose_ok hb.2) rfl hb.2 (drawsC_ok hc _ e ea _ [] [] rl (fun q hq => by cases hq) he')
  · cases he

/-- What is left of a run behind code. -/
def QC (sz : Nat) (kn : Ev → Heap → Rs) (kx : Nat → Ev → Heap → Rs) (kr : Ev → Heap → Rs) (r : Fin × Heap) (o : Out) (s : St) : Prop :=
  match o with
  | .norm => ∃ e', Rel sz e' s.env ∧ kn e' s.heap = some r
  | .exit i => ∃ e', Rel sz e' s.env ∧ kx i e' s.heap = some r
  | .ret => ∃ e', Rel sz e' s.env ∧ kr e' s.heap = some r
  | .panic v => r = (.panic v, s.heap)

theorem regC_run {ops : Array Oper} {q : OF} {cl : Cl} {n : Nat} {kn : Ev → Heap → Rs} {kx : Nat → Ev → Heap → Rs} {kr : Ev → Heap → Rs} {e : Ev} {h : Heap} {r : Fin × Heap} (he : (regC ops q).run cl n kn kx kr e h = some r) : q.run cl h.next e (h.bump (reserve ops)) kn = some r := by
  obtain ⟨f⟩ := q
  unfold regC at he
  dsimp only at he
  split at he
  · rename_i hb
    have h0 : reserve ops = 0 := Nat.eq_of_beq_eq_true hb
    rw [h0]
    exact he
  · have he' : strictN h.next (fun b => f cl b e ⟨b + reserve ops, h.tbl⟩ kn) = some r := he
    rw [strictN_eq] at he'
    exact he'

theorem comp_ok {sz : Nat} {cl : Cl} (hc : ClOk P X cl) {kr : Ev → Heap → Rs} {r : Fin × Heap} : ∀ (c : Code) (n : Nat) (kn : Ev → Heap → Rs) (kx : Nat → Ev → Heap → Rs) (e : Ev) (ea : Env) (h : Heap), Rel sz e ea → (comp P sz c).run cl n kn kx kr e h = some r → W P X c ⟨ea, h⟩ (QC sz kn kx kr r)
  | .skip, n, kn, kx, e, ea, h, rl, he => W.skip ⟨e, rl, he⟩
  | .label _, n, kn, kx, e, ea, h, rl, he => W.label ⟨e, rl, he⟩
  | .region id ops true, n, kn, kx, e, ea, h, rl, he => (drawC_ok hc rl (regC_run he)).mono fun o s q => by
      cases o with
      | norm => exact q
      | exit i => exact q.elim
      | ret => exact q.elim
      | panic v => exact q.elim
  | .region id ops false, n, kn, kx, e, ea, h, rl, he => (W.region (s := ⟨ea, h⟩) (id := id) (opsC_ok hc ops.toList 0 e ea _ rl (regC_run he))).mono fun o s q => by
      cases o with
      | norm => exact q
      | exit i => exact q.elim
      | ret => exact q.elim
      | panic v => exact q
  | .seq a b, n, kn, kx, e, ea, h, rl, he => W.seq ((comp_ok hc a n (fun e h => (comp P sz b).run cl n kn kx kr e h) kx e ea h rl he).mono fun o s q => by
      cases o with
      | norm => obtain ⟨e', r1, r2⟩ := q; exact comp_ok hc b n kn kx e' s.env s.heap r1 r2
      | exit i => exact q
      | ret => exact q
      | panic v => exact q)
  | .cond c x y, n, kn, kx, e, ea, h, rl, he => by
    unfold comp at he
    split at he
    · cases he
    · rename_i gc hg
      have he' : (match gc e with
        | .bool true => (comp P sz x).run cl n kn kx kr e h
        | .bool false => (comp P sz y).run cl n kn kx kr e h
        | _ => none) = some r := he
      have ho := vaC_ok rl hg
      split at he'
      · rename_i hb; rw [hb] at ho; exact W.condT ho (comp_ok hc x n kn kx e ea h rl he')
      · rename_i hb; rw [hb] at ho; exact W.condF ho (comp_ok hc y n kn kx e ea h rl he')
      · cases he'
  | .block id b, n, kn, kx, e, ea, h, rl, he => W.block ((comp_ok hc b n kn (fun i e h => bif Nat.beq i id then kn e h else kx i e h) e ea h rl he).mono fun o s q => by
      cases o with
      | norm => exact q
      | exit i =>
        obtain ⟨e', r1, r2⟩ := q
        dsimp only
        by_cases hi : i = id
        · rw [if_pos hi]
          have : Nat.beq i id = true := Nat.beq_eq.mpr hi
          dsimp only at r2
          rw [this] at r2
          exact ⟨e', r1, r2⟩
        · rw [if_neg hi]
          have : Nat.beq i id = false := by cases hb : Nat.beq i id with | false => rfl | true => exact absurd (Nat.eq_of_beq_eq_true hb) hi
          dsimp only at r2
          rw [this] at r2
          exact ⟨e', r1, r2⟩
      | ret => exact q
      | panic v => exact q)
  | .loop b, n, kn, kx, e, ea, h, rl, he => by
    have he' : loopC (fun k e h => (comp P sz b).run cl n k kx kr e h) n e h = some r := he
    clear he
    have go : ∀ (m : Nat) (e : Ev) (ea : Env) (h : Heap), Rel sz e ea → loopC (fun k e h => (comp P sz b).run cl n k kx kr e h) m e h = some r → W P X (.loop b) ⟨ea, h⟩ (QC sz kn kx kr r) := by
      intro m
      induction m with
      | zero => intro e ea h _ q; cases q
      | succ m ih =>
        intro e ea h rl q
        refine W.loop ((comp_ok hc b n _ kx e ea h rl q).mono fun o s z => ?_)
        cases o with
        | norm => obtain ⟨e', r1, r2⟩ := z; exact ih e' s.env s.heap r1 r2
        | exit i => exact z
        | ret => exact z
        | panic v => exact z
    exact go n e ea h rl he'
  | .exit id, n, kn, kx, e, ea, h, rl, he => W.exit ⟨e, rl, he⟩
  | .scope b, n, kn, kx, e, ea, h, rl, he => W.scope (comp_ok hc b n kn kx e ea h rl he)
  | .ret, n, kn, kx, e, ea, h, rl, he => W.ret ⟨e, rl, he⟩
  | .rangeFunc .., n, kn, kx, e, ea, h, rl, he => by cases he
  | .goto _, n, kn, kx, e, ea, h, rl, he => by cases he
  | .refuse _, n, kn, kx, e, ea, h, rl, he => by cases he

theorem resultsC_ok {sz : Nat} {e : Ev} {ea : Env} (rl : Rel sz e ea) {h : Heap} {r : Fin × Heap} : ∀ {rs : List ResultVar} {k : List AV → Rs}, (resultsC P rs).run e h k = some r → ∃ vs, resultsA P rs ea h = some vs ∧ k vs = some r
  | [], k, he => ⟨[], rfl, he⟩
  | .tmp t :: rs, k, he => by
    unfold resultsC at he
    cases hb : Nat.blt t 512 with
    | false => rw [hb] at he; cases he
    | true =>
      rw [hb] at he
      rw [Nat.blt_eq] at hb
      have he' : (resultsC P rs).run e h (fun vs => k ((sl t).get e :: vs)) = some r := he
      obtain ⟨vs, h1, h2⟩ := resultsC_ok rl he'
      rw [sl_get] at h2
      exact ⟨_, by simp only [resultsA, h1, rl.2 t hb], h2⟩
  | .cell a t :: rs, k, he => by
    unfold resultsC at he
    cases hb : Nat.blt a 512 with
    | false => rw [hb] at he; cases he
    | true =>
      rw [hb] at he
      rw [Nat.blt_eq] at hb
      have he' : (match loadA P h t ((sl a).get e) with
        | some v => (resultsC P rs).run e h (fun vs => k (v :: vs))
        | none => none) = some r := he
      rw [sl_get] at he'
      split at he'
      · rename_i v hv
        obtain ⟨vs, h1, h2⟩ := resultsC_ok rl he'
        exact ⟨v :: vs, by simp only [resultsA, rl.2 a hb, hv, h1], h2⟩
      · cases he'

/-- The slots that arguments are laid into. -/
theorem argsC_ok {r : Fin × Heap} {k : Ev → Rs} : ∀ (vs : List AV) (i : Nat) (e : Ev) (t : Tr AV), i + vs.length ≤ 512 → (∀ u, u < 512 → (t.get u).getD undefA = sget u e) → argsC vs i e k = some r → ∃ e', (∀ u, u < 512 → ((initT vs i t).get u).getD undefA = sget u e') ∧ k e' = some r
  | [], i, e, t, hi, ht, he => ⟨e, ht, he⟩
  | v :: vs, i, e, t, hi, ht, he => by
    simp only [List.length_cons] at hi
    have he' : (sl i).put e v (fun e => argsC vs (i + 1) e k) = some r := he
    rw [sl_put (by omega)] at he'
    refine argsC_ok vs (i + 1) _ (t.set i (some v)) (by omega) (fun u hu => ?_) he'
    rw [Tr.get_set, sget_sset hu (by omega)]
    split
    · rfl
    · exact ht u hu

theorem callC_ok : ∀ n : Nat, ClOk P X (callC P X n)
  | 0 => fun f args h v h' he => by cases he
  | n + 1 => fun f args h v h' he => by
    unfold callC at he
    split at he
    · rename_i g hg
      exact ⟨1, by simp only [callA, hg]; exact he⟩
    · rename_i hx
      have he' : (funC P f).run (callC P X n) n args h = some (v, h') := he
      unfold funC at he'
      split at he'
      · cases he'
      · rename_i fn hf
        split at he'
        · rename_i hb
          dsimp only at he'
          split at he'
          · rename_i u hu
            cases he'
            exact ⟨1, by simp only [callA, hx, hf, hb, hu]⟩
          · cases he'
        · rename_i c hb
          have he2 : (bif Nat.ble args.length fn.ntmps && Nat.ble args.length 512 then
            argsC args 0 ev0 fun e => (comp P fn.ntmps c).run (callC P X n) n (fun e h => (resultsC P fn.results.toList).run e h fun vs => some (.ret (oneOf vs), h)) (fun _ _ _ => none) (fun e h => (resultsC P fn.results.toList).run e h fun vs => some (.ret (oneOf vs), h)) e h
            else none) = some (v, h') := he'
          cases hq : Nat.ble args.length fn.ntmps && Nat.ble args.length 512 with
          | false => rw [hq] at he2; cases he2
          | true =>
            rw [hq, cond_true] at he2
            simp only [Bool.and_eq_true, Nat.ble_eq] at hq
            obtain ⟨e', g1, g2⟩ := argsC_ok args 0 ev0 .nil (by omega) (fun u hu => by rw [sget_ev0 hu]; rfl) he2
            have rl : Rel fn.ntmps e' (Env.init args fn.ntmps) := ⟨by show args.length + (fn.ntmps - args.length) = fn.ntmps; omega, g1⟩
            refine Runs.body hx hf hb ((comp_ok (callC_ok n) c n _ _ e' _ h rl g2).mono fun o s q => ?_)
            cases o with
            | norm =>
              obtain ⟨e2, r1, r2⟩ := q
              obtain ⟨vs, m1, m2⟩ := resultsC_ok r1 r2
              cases m2
              exact ⟨vs, m1, rfl, rfl⟩
            | ret =>
              obtain ⟨e2, r1, r2⟩ := q
              obtain ⟨vs, m1, m2⟩ := resultsC_ok r1 r2
              cases m2
              exact ⟨vs, m1, rfl, rfl⟩
            | exit i => obtain ⟨e2, _, r2⟩ := q; cases r2
            | panic w => cases q; exact ⟨rfl, rfl⟩

end Go.Proofs.YtahdafekballcaaGreat.AM
