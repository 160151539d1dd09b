/-
  AM, part 34: a function without arguments that has been run by itself is told what it answers, with the blocks that it makes.
-/
import Derived.Test.YtahdafekballcaaGreatAm33
namespace Go.Proofs.YtahdafekballcaaGreat.AM
open Go Go.RowKit
set_option linter.unusedVariables false
set_option linter.unusedSimpArgs false

variable {P : Program} {X : Told}

/-- A block that is handed out: its number in the run by itself, its cells, its mark. -/
structure Blk where
  b : Nat
  cs : List AV
  pl : Bool

/-- Its number behind the base. -/
def plc (base : Nat) (b : Nat) : List Blk → Option Nat
  | [] => none
  | k :: ks => bif Nat.beq k.b b then some base else plc (base + 1) b ks

mutual
def shA (base : Nat) (bl : List Blk) : AV → Option AV
  | .slice b o l c ex sz => match plc base b bl with
    | some b' => some (.slice b' o l c ex sz)
    | none => none
  | .ptr b o => match plc base b bl with
    | some b' => some (.ptr b' o)
    | none => none
  | .agg cs => match shL base bl cs with
    | some l => some (.agg l)
    | none => none
  | .tup cs => match shL base bl cs with
    | some l => some (.tup l)
    | none => none
  | .int k n => some (.int k n)
  | .bool b => some (.bool b)
  | .nils => some .nils
  | .nilp => some .nilp
  | _ => none
def shL (base : Nat) (bl : List Blk) : List AV → Option (List AV)
  | [] => some []
  | v :: vs => match shA base bl v with
    | some v' => match shL base bl vs with
      | some l => some (v' :: l)
      | none => none
    | none => none
end

def putAll (base : Nat) : List Blk → Heap → Heap
  | [], h => h
  | k :: ks, h => putAll (base + 1) ks (h.put base (some (.cells k.cs (.rw k.pl) [])))

def toldH (f0 : FuncId) (v : AV) (bl : List Blk) : Told := fun f => bif Nat.beq f f0 then some (fun args h => match args with
  | [] => match shA h.next bl v with
    | some v' => some (.ret v', putAll h.next bl (h.bump bl.length))
    | none => none
  | _ :: _ => none) else none

theorem toldH_is {f0 : FuncId} {v : AV} {bl : List Blk} {f : FuncId} {g : List AV → Heap → Option (Fin × Heap)} (h : toldH f0 v bl f = some g) : f = f0 ∧ g = fun args h => match args with
  | [] => match shA h.next bl v with
    | some v' => some (.ret v', putAll h.next bl (h.bump bl.length))
    | none => none
  | _ :: _ => none := by
  unfold toldH at h
  cases hb : Nat.beq f f0 with
  | false => rw [hb] at h; cases h
  | true => rw [hb] at h; exact ⟨Nat.eq_of_beq_eq_true hb, (Option.some.inj h).symm⟩

theorem putAll_hu {E : Nat → Option AObj} : ∀ (bl : List Blk) (base : Nat) {h h2 : Heap}, HU h E h2 → (∀ i, base ≤ i → E i = none) → HU (putAll base bl h) E (putAll base bl h2)
  | [], base, h, h2, u, hE => u
  | k :: ks, base, h, h2, u, hE => putAll_hu ks (base + 1) (u.put _ (hE base (Nat.le_refl _)) (fun cs md a e x hx => by injection e with _ _ e3; subst e3; cases hx)) (fun i hi => hE i (by omega))

theorem toldH_hu (f0 : FuncId) (v : AV) (bl : List Blk) : ToldHU (toldH f0 v bl) := by
  intro f g hg args h r h' E h2 he u
  obtain ⟨_, rfl⟩ := toldH_is hg
  cases args with
  | cons a l => cases he
  | nil =>
    simp only at he ⊢
    have hn : h2.next = h.next := u.next
    rw [hn]
    split at he
    · rename_i v' hv
      obtain ⟨rfl, rfl⟩ := Prod.mk.inj (Option.some.inj he)
      refine ⟨_, rfl, putAll_hu bl h.next (u.bump bl.length) fun i hi => ?_⟩
      cases hEi : E i with
      | none => rfl
      | some o => have := (u.dis i o hEi).2; omega
    · cases he

/-! ### What the new blocks are -/
theorem next_putAll : ∀ (bl : List Blk) (base : Nat) (h : Heap), (putAll base bl h).next = h.next
  | [], _, _ => rfl
  | k :: ks, base, h => by rw [putAll, next_putAll ks]; rfl

theorem get_putAll : ∀ (bl : List Blk) (base : Nat) (h : Heap) (c : Nat), (putAll base bl h).get c = if base ≤ c ∧ c < base + bl.length then (bl[c - base]?).map (fun k => .cells k.cs (.rw k.pl) []) else h.get c
  | [], base, h, c => by
    rw [putAll, if_neg (by simp only [List.length_nil]; omega)]
  | k :: ks, base, h, c => by
    rw [putAll, get_putAll ks, List.length_cons, Heap.get_put]
    by_cases h1 : base + 1 ≤ c ∧ c < base + 1 + ks.length
    · rw [if_pos h1, if_pos (by omega)]
      rw [show c - base = (c - (base + 1)) + 1 by omega, List.getElem?_cons_succ]
    · rw [if_neg h1]
      by_cases h2 : base = c
      · subst h2
        rw [if_pos rfl, if_pos (by omega)]
        simp
      · rw [if_neg h2, if_neg (by omega)]

theorem plc_at : ∀ (bl : List Blk) (base b b' : Nat), plc base b bl = some b' → base ≤ b' ∧ b' < base + bl.length ∧ ∃ k, bl[b' - base]? = some k ∧ k.b = b
  | [], _, _, _, h => by cases h
  | k :: ks, base, b, b', h => by
    unfold plc at h
    cases hb : Nat.beq k.b b with
    | true =>
      rw [hb] at h
      obtain rfl := Option.some.inj h
      exact ⟨Nat.le_refl _, by simp only [List.length_cons]; omega, k, by simp, Nat.eq_of_beq_eq_true hb⟩
    | false =>
      rw [hb] at h
      obtain ⟨h1, h2, q, h3, h4⟩ := plc_at ks (base + 1) b b' h
      refine ⟨by omega, by simp only [List.length_cons]; omega, q, ?_, h4⟩
      rw [show b' - base = (b' - (base + 1)) + 1 by omega, List.getElem?_cons_succ]
      exact h3

mutual
theorem shA_ok {ρ' ρ2 : Rho} {base : Nat} {bl : List Blk} (hp : ∀ b b', plc base b bl = some b' → ρ2 b' = ρ' b) : ∀ {v v' : AV} {x : Value}, VR ρ' v x → shA base bl v = some v' → VR ρ2 v' x
  | _, _, _, .int k n, h => by simp only [shA, Option.some.injEq] at h; subst h; exact .int k n
  | _, _, _, .bool b, h => by simp only [shA, Option.some.injEq] at h; subst h; exact .bool b
  | _, _, _, .nils, h => by simp only [shA, Option.some.injEq] at h; subst h; exact .nils
  | _, _, _, .nilp, h => by simp only [shA, Option.some.injEq] at h; subst h; exact .nilp
  | _, _, _, .slice b o len cap ex sz p c' a e h1 h2 h3 h4, h => by
    simp only [shA] at h
    split at h
    · rename_i b' hb
      obtain rfl := Option.some.inj h
      exact .slice b' o len cap ex sz p c' a (by rw [hp _ _ hb]; exact e) h1 h2 h3 h4
    · cases h
  | _, _, _, .ptr b o p e, h => by
    simp only [shA] at h
    split at h
    · rename_i b' hb
      obtain rfl := Option.some.inj h
      exact .ptr b' o p (by rw [hp _ _ hb]; exact e)
    · cases h
  | _, _, _, .agg x x' e, h => by
    simp only [shA] at h
    split at h
    · rename_i l hl
      obtain rfl := Option.some.inj h
      exact .agg _ _ (shL_ok hp e hl)
    · cases h
  | _, _, _, .tup x x' e, h => by
    simp only [shA] at h
    split at h
    · rename_i l hl
      obtain rfl := Option.some.inj h
      exact .tup _ _ (shL_ok hp e hl)
    · cases h
  | _, _, _, .str s bs e, h => by simp [shA] at h
  | _, _, _, .nilm, h => by simp [shA] at h
  | _, _, _, .nilf, h => by simp [shA] at h
  | _, _, _, .nili, h => by simp [shA] at h
  | _, _, _, .iface t v v' e, h => by simp [shA] at h
  | _, _, _, .junk _, h => by simp [shA] at h
  | _, _, _, .map _ _ _, h => by simp [shA] at h
  | _, _, _, .fn _ _ _ _ _ _ _, h => by simp [shA] at h
theorem shL_ok {ρ' ρ2 : Rho} {base : Nat} {bl : List Blk} (hp : ∀ b b', plc base b bl = some b' → ρ2 b' = ρ' b) : ∀ {vs vs' : List AV} {x : List Value}, VRL ρ' vs x → shL base bl vs = some vs' → VRL ρ2 vs' x
  | _, _, _, .nil, h => by simp only [shL, Option.some.injEq] at h; subst h; exact .nil
  | _, _, _, .cons v v' vs vs' e es, h => by
    simp only [shL] at h
    split at h
    · rename_i u hu
      split at h
      · rename_i l hl
        obtain rfl := Option.some.inj h
        exact .cons _ _ _ _ (shA_ok hp e hu) (shL_ok hp es hl)
      · cases h
    · cases h
end

/-- Do the blocks stand so behind the run, none of them another one's ancestor, none twice? -/
def blksOk (bl : List Blk) (h0 : Heap) : Bool :=
  bl.all fun k => freeL k.cs && match h0.get k.b with
    | some (.cells cs (.rw pl) anc) => AV.beqs k.cs cs && (pl == k.pl) && anc.all fun x => bl.all fun q => !Nat.beq q.b x
    | _ => false

def nodupB : List Blk → Bool
  | [] => true
  | k :: ks => ks.all (fun q => !Nat.beq q.b k.b) && nodupB ks

theorem nodupB_ne : ∀ {bl : List Blk} {i j : Nat} {a b : Blk}, nodupB bl = true → bl[i]? = some a → bl[j]? = some b → i ≠ j → a.b ≠ b.b
  | [], _, _, _, _, _, h, _, _ => by simp at h
  | k :: ks, i, j, a, b, hn, ha, hb, hij => by
    simp only [nodupB, Bool.and_eq_true, List.all_eq_true] at hn
    cases i with
    | zero =>
      cases j with
      | zero => exact absurd rfl hij
      | succ j =>
        simp only [List.getElem?_cons_zero, Option.some.injEq] at ha
        subst ha
        rw [List.getElem?_cons_succ] at hb
        have := hn.1 b (List.mem_of_getElem? hb)
        intro e
        rw [e] at this
        simp at this
    | succ i =>
      rw [List.getElem?_cons_succ] at ha
      cases j with
      | zero =>
        simp only [List.getElem?_cons_zero, Option.some.injEq] at hb
        subst hb
        have := hn.1 a (List.mem_of_getElem? ha)
        intro e
        rw [e] at this
        simp at this
      | succ j =>
        rw [List.getElem?_cons_succ] at hb
        exact nodupB_ne hn.2 ha hb (by omega)

theorem toldH_ok (hm : P.follows .mixedOrders = true) (hP : ∀ (f : FuncId) (fn : Func), P.funcs[f]? = some fn → fn.body.isNone = false → (fn.name == "runtime.NumGoroutine") = false) (hX : ToldOK P X) (hXu : ToldHU X) {f0 : FuncId} {v : AV} {bl : List Blk} {n0 : Nat} {h0 : Heap}
    (e : Runs P X f0 [] ⟨n0, .nil⟩ (.ret v) h0) (hbl : blksOk bl h0 = true) (hnd : nodupB bl = true) (hbody : ∃ fn c, P.funcs[f0]? = some fn ∧ fn.body = some c) : ToldOK P (toldH f0 v bl) := by
  intro f g hg args h r h' he
  obtain ⟨rfl, rfl⟩ := toldH_is hg
  obtain ⟨n, e⟩ := e
  rcases callA_ok hm hP hX hXu n f [] ⟨n0, .nil⟩ _ _ e with ok | ⟨_, _, _, ⟨fn, q1, q2⟩, _⟩
  case inr =>
    obtain ⟨fn', c, q3, q4⟩ := hbody
    rw [q1] at q3
    cases q3
    rw [q2] at q4
    cases q4
  refine ⟨ok.1, fun B w0 ρ w vs S hvs => ?_⟩
  cases args with
  | cons a l => cases he
  | nil =>
    simp only at he
    split at he
    case h_2 => cases he
    rename_i v' hv'
    obtain ⟨rfl, rfl⟩ := Prod.mk.inj (Option.some.inj he)
    have hv0 : vs.toList = [] := by cases hq : vs.toList with
      | nil => rfl
      | cons a l => rw [hq] at hvs; cases hvs
    refine (ok.2 w.heap.size w (fun _ => none) w vs (Sim.start w n0) (by rw [hv0]; exact .nil)).mono fun en w' hp => ?_
    obtain ⟨ρ', S', _, _, _, k5⟩ := hp
    have hb := S'.below
    have hsz : B ≤ w.heap.size := Nat.le_trans S.bsize S.below.size
    have hold : ∀ (k : Nat) (o : Obj), w.heap[k]? = some o → k < w.heap.size ∧ w'.heap[k]? = some o := fun k o hk => by
      have hlt : k < w.heap.size := by
        rcases Nat.lt_or_ge k w.heap.size with q | q
        · exact q
        · rw [Array.getElem?_eq_none q] at hk; cases hk
      exact ⟨hlt, by rw [hb.block k hlt]; exact hk⟩
    -- where the blocks lie
    let ρ2 : Rho := fun c => if h.next ≤ c ∧ c < h.next + bl.length then (bl[c - h.next]?).bind fun k => ρ' k.b else ρ c
    have r2old : ∀ c, c < h.next → ρ2 c = ρ c := fun c hc => if_neg (by omega)
    have r2new : ∀ c, h.next ≤ c → c < h.next + bl.length → ρ2 c = (bl[c - h.next]?).bind fun k => ρ' k.b := fun c h1 h2 => if_pos ⟨h1, h2⟩
    have hE : Ext ρ ρ2 := fun c p hp => by rw [r2old c (S.dom c p hp)]; exact hp
    have hplc : ∀ b b', plc h.next b bl = some b' → ρ2 b' = ρ' b := fun b b' hh => by
      obtain ⟨h1, h2, k, h3, h4⟩ := plc_at bl h.next b b' hh
      rw [r2new b' h1 h2, h3]
      show ρ' k.b = ρ' b
      rw [h4]
    have hblk : ∀ (i : Nat) (k : Blk), bl[i]? = some k → freeL k.cs = true ∧ ∃ anc, h0.get k.b = some (.cells k.cs (.rw k.pl) anc) ∧ ∀ x ∈ anc, ∀ q ∈ bl, q.b ≠ x := fun i k hk => by
      have := List.all_eq_true.1 hbl k (List.mem_of_getElem? hk)
      rw [Bool.and_eq_true] at this
      refine ⟨this.1, ?_⟩
      have h2 := this.2
      split at h2
      · rename_i cs pl anc hget
        simp only [Bool.and_eq_true] at h2
        obtain ⟨⟨h3, h4⟩, h5⟩ := h2
        rw [AV.eqs_of_beqs h3, ← (show pl = k.pl by simpa using h4)]
        refine ⟨anc, hget, fun x hx q hq heq => ?_⟩
        have := List.all_eq_true.1 (List.all_eq_true.1 h5 x hx) q hq
        rw [heq] at this
        simp at this
      · cases h2
    have hget : ∀ c o, (putAll h.next bl (h.bump bl.length)).get c = some o → (c < h.next ∧ h.get c = some o) ∨ (h.next ≤ c ∧ c < h.next + bl.length ∧ ∃ k, bl[c - h.next]? = some k ∧ o = .cells k.cs (.rw k.pl) []) := fun c o hc => by
      rw [get_putAll] at hc
      split at hc
      · rename_i hh
        refine .inr ⟨hh.1, hh.2, ?_⟩
        cases hk : bl[c - h.next]? with
        | none => rw [hk] at hc; cases hc
        | some k => rw [hk] at hc; exact ⟨k, rfl, (Option.some.inj hc).symm⟩
      · exact .inl ⟨S.lt hc, hc⟩
    have newAt : ∀ (c : Nat) (k : Blk) (p : Pos), h.next ≤ c → c < h.next + bl.length → bl[c - h.next]? = some k → ρ2 c = some p → ρ' k.b = some p := fun c k p h1 h2 h3 h4 => by
      rw [r2new c h1 h2, h3] at h4
      exact h4
    have newBlk : ∀ (k : Blk) (i : Nat) (p : Pos), bl[i]? = some k → ρ' k.b = some p → w.heap.size ≤ p.blk := fun k i p hk hp => by
      obtain ⟨_, anc, hg0, _⟩ := hblk i k hk
      obtain ⟨q, _, _, _, g1, _, _, _, _, g6⟩ := S'.blk _ _ _ _ hg0
      rw [hp] at g1
      obtain rfl := Option.some.inj g1
      exact (g6 _ rfl).1
    have oldBlk : ∀ c o p, h.get c = some o → ρ c = some p → p.blk < w.heap.size := fun c o p hc hp => by
      cases o with
      | cells cs md anc =>
        obtain ⟨q, _, _, _, g1, g2, _⟩ := S.blk _ _ _ _ hc
        rw [hp] at g1
        obtain rfl := Option.some.inj g1
        exact (hold _ _ g2).1
      | map es k =>
        obtain ⟨q, _, g1, g2, _⟩ := S.map _ _ _ hc
        rw [hp] at g1
        obtain rfl := Option.some.inj g1
        exact (hold _ _ g2).1
    have S2 : Sim B w0 ρ2 (putAll h.next bl (h.bump bl.length)) w' := by
      refine { below := S.below.trans (hb.mono hsz), bsize := S.bsize, dom := ?_, blk := ?_, map := ?_, sep := ?_, msep := ?_, ancl := ?_ }
      · intro c p hc
        rw [next_putAll, Heap.next_bump]
        by_cases hh : h.next ≤ c ∧ c < h.next + bl.length
        · exact hh.2
        · have : ρ2 c = ρ c := if_neg hh
          rw [this] at hc
          have := S.dom c p hc
          omega
      · intro c cs md anc hc
        rcases hget c _ hc with ⟨hlt, hc⟩ | ⟨h1, h2, k, hk, ho⟩
        · obtain ⟨p, T, cc, fz, g1, g2, g3, g4, g5, g6⟩ := S.blk c cs md anc hc
          exact ⟨p, T, cc, fz, hE _ _ g1, (hold _ _ g2).2, g3, g4, g5.mono hE, g6⟩
        · injection ho with o1 o2 o3
          subst o1 o2 o3
          obtain ⟨hfr, anc0, hg0, _⟩ := hblk _ k hk
          obtain ⟨p, T, cc, fz, g1, g2, g3, g4, g5, g6⟩ := S'.blk _ _ _ _ hg0
          refine ⟨p, T, cc, fz, by rw [r2new c h1 h2, hk]; exact g1, g2, g3, g4, g5.free hfr, fun pl hpl => ?_⟩
          obtain ⟨z1, z2, z3⟩ := g6 pl hpl
          exact ⟨Nat.le_trans hsz z1, z2, z3⟩
      · intro c es k hc
        rcases hget c _ hc with ⟨hlt, hc⟩ | ⟨h1, h2, k, hk, ho⟩
        · obtain ⟨p, ob, g1, g2, g3, g4⟩ := S.map c es k hc
          exact ⟨p, ob, hE _ _ g1, (hold _ _ g2).2, g3.mono hE, g4⟩
        · cases ho
      · intro b cs pl anc p b2 o2 p2 h1 h2 h3 h4 h5 h6
        rcases hget b _ h1 with ⟨l1, h1'⟩ | ⟨l1, l2, k, hk, ho⟩
        · rw [r2old b l1] at h2
          rcases hget b2 _ h3 with ⟨m1, h3'⟩ | ⟨m1, m2, k2, hk2, ho2⟩
          · rw [r2old b2 m1] at h4
            exact S.sep b cs pl anc p b2 o2 p2 h1' h2 h3' h4 h5 h6
          · have a1 := oldBlk b _ p h1' h2
            have a2 := newBlk k2 _ p2 hk2 (newAt b2 k2 p2 m1 m2 hk2 h4)
            omega
        · have q1 := newAt b k p l1 l2 hk h2
          rcases hget b2 _ h3 with ⟨m1, h3'⟩ | ⟨m1, m2, k2, hk2, ho2⟩
          · rw [r2old b2 m1] at h4
            have a1 := oldBlk b2 _ p2 h3' h4
            have a2 := newBlk k _ p hk q1
            omega
          · have q2 := newAt b2 k2 p2 m1 m2 hk2 h4
            obtain ⟨_, anc1, hg1, hd1⟩ := hblk _ k hk
            obtain ⟨_, anc2, hg2, _⟩ := hblk _ k2 hk2
            have hne : k.b ≠ k2.b := nodupB_ne hnd hk hk2 (by omega)
            have := (S'.sep k.b _ _ anc1 p k2.b _ p2 hg1 q1 hg2 q2 hne h6).1
            exact absurd rfl (hd1 _ this k2 (List.mem_of_getElem? hk2))
      · intro b es k p b2 o2 p2 h1 h2 h3 h4 h5
        rcases hget b _ h1 with ⟨l1, h1'⟩ | ⟨l1, l2, k, hk, ho⟩
        · rw [r2old b l1] at h2
          rcases hget b2 _ h3 with ⟨m1, h3'⟩ | ⟨m1, m2, k2, hk2, ho2⟩
          · rw [r2old b2 m1] at h4
            exact S.msep b es _ p b2 o2 p2 h1' h2 h3' h4 h5
          · have a1 := oldBlk b _ p h1' h2
            have a2 := newBlk k2 _ p2 hk2 (newAt b2 k2 p2 m1 m2 hk2 h4)
            omega
        · cases ho
      · intro b cs md a hc x hx
        rw [next_putAll, Heap.next_bump]
        rcases hget b _ hc with ⟨l1, hc⟩ | ⟨l1, l2, k, hk, ho⟩
        · have := S.ancl b cs md a hc x hx
          omega
        · injection ho with o1 o2 o3
          subst o3
          cases hx
    refine ⟨ρ2, S2, hE, fun b hlt => r2old b hlt, by rw [next_putAll, Heap.next_bump]; omega, ?_⟩
    cases en with
    | returned x =>
      have : VR ρ' v x := k5
      exact shA_ok hplc this hv'
    | panicked ch => exact k5.elim
    | outgrown => exact k5.elim

/-- What the run by itself comes to. -/
def madeTo (v : AV) (bl : List Blk) : Rs → Bool
  | some (.ret u, h0) => AV.beq v u && blksOk bl h0 && nodupB bl
  | _ => false

theorem toldH_of_run (hm : P.follows .mixedOrders = true) (hP : ∀ (f : FuncId) (fn : Func), P.funcs[f]? = some fn → fn.body.isNone = false → (fn.name == "runtime.NumGoroutine") = false) (hX : ToldOK P X) (hXu : ToldHU X) {f0 : FuncId} {v : AV} {bl : List Blk} {n : Nat}
    (e : madeTo v bl (callC P X n f0 [] ⟨1000, .nil⟩) = true) (hbody : ∃ fn c, P.funcs[f0]? = some fn ∧ fn.body = some c) : ToldOK P (toldH f0 v bl) := by
  cases hc : callC P X n f0 [] ⟨1000, .nil⟩ with
  | none => rw [hc] at e; cases e
  | some r =>
    obtain ⟨u, h0⟩ := r
    rw [hc] at e
    match u, e, hc with
    | .ret u, e, hc =>
      have e : (AV.beq v u && blksOk bl h0 && nodupB bl) = true := e
      simp only [Bool.and_eq_true] at e
      obtain rfl := AV.eq_of_beq e.1.1
      exact toldH_ok hm hP hX hXu (callC_ok n f0 [] _ _ _ hc) e.1.2 e.2 hbody

end Go.Proofs.YtahdafekballcaaGreat.AM
