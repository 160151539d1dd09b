/-
  AM, part 4: writing, and making.
-/
import Derived.Test.YtahdafekballcaaGreatAm3
namespace Go.Proofs.YtahdafekballcaaGreat.AM
open Go Go.RowKit
set_option linter.unusedVariables false
set_option linter.unusedSimpArgs false

variable {P : Program} {ρ : Rho} {B : Nat} {w0 w : World} {h : Heap}

theorem below_withBlk {B : Nat} {w0 w : World} (hb : Below B w0 w) {k : Nat} (hk : B ≤ k) (hl : k < w.heap.size) (o : Obj) : Below B w0 (withBlk w k o) :=
  ⟨hb.os, hb.tape, hb.output, by rw [size_withBlk]; exact hb.size, fun j hj => by rw [heap_withBlk _ _ _ _ hl, if_neg (by omega)]; exact hb.block j hj⟩

theorem vrl_oneCell {ρ : Rho} {vs : List AV} {vs' : List Value} (h : VRL ρ vs vs') (ha : vs.all AV.isCell = true) : ∀ v ∈ vs', v.oneCell' = true := by
  intro v' hv'
  obtain ⟨i, hi⟩ := List.getElem?_of_mem hv'
  have hlt : i < vs.length := by rw [VRL.length h]; exact (List.getElem?_eq_some_iff.1 hi).1
  obtain ⟨u, e, r⟩ := VRL.get h i vs[i] (List.getElem?_eq_getElem hlt)
  rw [hi] at e
  obtain rfl := Option.some.inj e
  exact r.oneCell (List.all_eq_true.1 ha _ (List.getElem_mem hlt))

theorem pokeA_spec {b o : Nat} {vs : List AV} {h' : Heap} (e : pokeA h b o vs = some h') :
    ∃ cs pl anc, h.get b = some (.cells cs (.rw pl) anc) ∧ o + vs.length ≤ cs.length ∧ vs.all AV.isCell = true ∧ h' = (h.drop anc).put b (some (.cells (lay cs o vs) (.rw pl) [])) := by
  unfold pokeA at e
  split at e
  · rename_i cs pl anc hg
    rw [cond_eq_ite] at e
    split at e
    · rename_i hc
      simp only [Bool.and_eq_true] at hc
      exact ⟨cs, pl, anc, hg, Nat.le_of_ble_eq_true hc.1, hc.2, (Option.some.inj e).symm⟩
    · simp at e
  · simp at e

/-- One block gets other cells (as many), and its ancestors go. -/
theorem Sim.poke (S : Sim B w0 ρ h w) {b o : Nat} {vs : List AV} {vs' : List Value} {h' : Heap} {p : Pos} (e : pokeA h b o vs = some h') (hp : ρ b = some p) (hv : VRL ρ vs vs') :
    ∃ w', (storeCells ⟨p.blk, p.base + o, none⟩ vs').run P w = .ok () w' ∧ Sim B w0 ρ h' w' ∧ h'.next = h.next := by
  obtain ⟨cs, pl, anc, hg, hle, hall, rfl⟩ := pokeA_spec e
  obtain ⟨T, cc, fz, f1, f2, f3, f4, f5⟩ := S.cellsAt hg hp
  obtain ⟨hB, hfz, hpl⟩ := f5 pl rfl
  have hlv := VRL.length hv
  refine ⟨_, by
    have := run_storeCells (P := P) vs' w p.blk (p.base + o) 0 cc T fz f1 (vrl_oneCell hv hall) (by omega) hfz
    exact this, ?_, by rw [Heap.next_put, Heap.next_drop]⟩
  have hlt := lt_of_heap f1
  have hget : ∀ c ob, ((h.drop anc).put b (some (.cells (lay cs o vs) (.rw pl) []))).get c = some ob → (c = b ∧ ob = .cells (lay cs o vs) (.rw pl) []) ∨ (c ≠ b ∧ c ∉ anc ∧ h.get c = some ob) := by
    intro c ob hc
    rw [Heap.get_put] at hc
    split at hc
    · rename_i ec; exact .inl ⟨ec.symm, (Option.some.inj hc).symm⟩
    · rename_i ec
      rw [Heap.get_drop] at hc
      split at hc
      · cases hc
      · rename_i hn; exact .inr ⟨fun x => ec x.symm, hn, hc⟩
  have other : ∀ c ob q, c ≠ b → c ∉ anc → h.get c = some ob → ρ c = some q → p.blk ≠ q.blk := fun c ob q hc hn hgc hq heq =>
    hn (S.sep b cs pl anc p c ob q hg hp hgc hq (fun x => hc x.symm) heq).1
  refine { below := below_withBlk S.below hB hlt _, bsize := S.bsize, dom := fun c q hc => by rw [Heap.next_put, Heap.next_drop]; exact S.dom c q hc, blk := ?_, map := ?_, sep := ?_, msep := ?_, ancl := ?_ }
  rotate_right
  · intro c cs' md a hc x hx
    rw [Heap.next_put, Heap.next_drop]
    rcases hget c _ hc with ⟨rfl, ec⟩ | ⟨hne, hn, hc⟩
    · injection ec with e1 e2 e3
      subst e3; cases hx
    · exact S.ancl c cs' md a hc x hx
  · intro c cs' md' anc' hc
    rcases hget c _ hc with ⟨rfl, ec⟩ | ⟨hne, hn, hc⟩
    · injection ec with e1 e2 e3
      subst e1 e2 e3
      refine ⟨p, T, _, fz, hp, by rw [heap_withBlk _ _ _ _ hlt, if_pos rfl], ?_, by rw [length_lay]; exact f3, ?_, fun pl' hpl' => ?_⟩
      · simp only [Nat.add_zero, List.size_toArray, length_layV, Array.length_toList]; exact f2
      · simp only [Nat.add_zero, length_lay]
        have hl2 : (layV cc.toList (p.base + o) vs').length = cc.size := by rw [length_layV]; simp
        refine VRL.of_get ?_ ?_
        · rw [length_lay, List.length_take, List.length_drop, hl2]; omega
        · intro i v hv1
          have hvlen : i < cs.length := by
            have := (List.getElem?_eq_some_iff.1 hv1).1
            rwa [length_lay] at this
          rw [get_lay _ _ _ _ hle] at hv1
          rw [List.getElem?_take, if_pos hvlen, List.getElem?_drop]
          rw [get_layV _ _ _ _ (by simp; omega)]
          by_cases hin : o ≤ i ∧ i < o + vs.length
          · rw [if_pos hin] at hv1
            rw [if_pos (by omega)]
            obtain ⟨v', e1, e2⟩ := VRL.get hv _ _ hv1
            refine ⟨v', ?_, e2⟩
            rw [show p.base + i - (p.base + o) = i - o by omega]; exact e1
          · rw [if_neg hin] at hv1
            rw [if_neg (by omega)]
            obtain ⟨v', e1, e2⟩ := VRL.get f4 _ _ hv1
            rw [List.getElem?_take, if_pos hvlen, List.getElem?_drop] at e1
            exact ⟨v', e1, e2⟩
      · injection hpl' with hh
        subst hh
        refine ⟨hB, fun i hi => hfz i ?_, hpl⟩
        simpa [length_layV] using hi
    · obtain ⟨q, T', cc', fz', g1, g2, g3⟩ := S.blk c cs' md' anc' hc
      exact ⟨q, T', cc', fz', g1, by rw [heap_withBlk _ _ _ _ hlt, if_neg (other c _ q hne hn hc g1)]; exact g2, g3⟩
  · intro c es k hc
    rcases hget c _ hc with ⟨rfl, ec⟩ | ⟨hne, hn, hc⟩
    · cases ec
    · obtain ⟨q, es', g1, g2, g3⟩ := S.map c es k hc
      exact ⟨q, es', g1, by rw [heap_withBlk _ _ _ _ hlt, if_neg (other c _ q hne hn hc g1)]; exact g2, g3⟩
  · intro c cs' pl' anc' q c2 o2 q2 h1 h2 h3 h4 h5 h6
    rcases hget c _ h1 with ⟨rfl, ec⟩ | ⟨hne, hn, h1'⟩
    · rcases hget c2 _ h3 with ⟨rfl, ec2⟩ | ⟨hne2, hn2, h3'⟩
      · exact absurd rfl h5
      · rw [hp] at h2; obtain rfl := Option.some.inj h2
        exact absurd h6 (other c2 _ q2 hne2 hn2 h3' h4)
    · rcases hget c2 _ h3 with ⟨rfl, ec2⟩ | ⟨hne2, hn2, h3'⟩
      · rw [hp] at h4; obtain rfl := Option.some.inj h4
        exact absurd h6.symm (other c _ q hne hn h1' h2)
      · exact S.sep c cs' pl' anc' q c2 o2 q2 h1' h2 h3' h4 h5 h6
  · intro c es k q c2 o2 q2 h1 h2 h3 h4 h5
    rcases hget c _ h1 with ⟨rfl, ec⟩ | ⟨hne, hn, h1'⟩
    · cases ec
    · rcases hget c2 _ h3 with ⟨rfl, ec2⟩ | ⟨hne2, hn2, h3'⟩
      · rw [hp] at h4; obtain rfl := Option.some.inj h4
        exact fun heq => other c _ q hne hn h1' h2 heq.symm
      · exact S.msep c es k q c2 o2 q2 h1' h2 h3' h4 h5

/-- A block goes on where it ends: the old one is read alone from here on. -/
theorem Sim.extend (S : Sim B w0 ρ h w) {b o fresh : Nat} {cs new : List AV} {new' : List Value} {pl : Bool} {anc : List Nat} {p : Pos} (hg : h.get b = some (.cells cs (.rw pl) anc)) (hp : ρ b = some p)
    (ho : o ≤ cs.length) (hv : VRL ρ new new') (hall : new.all AV.isCell = true) (hroom : cs.length + new.length ≤ p.room) (hf : ρ fresh = none) (hl : fresh < h.next) :
    ∃ w', (storeCells ⟨p.blk, p.base + cs.length, none⟩ new').run P w = .ok () w' ∧
      Sim B w0 (ρ.put fresh ⟨p.blk, p.base + o, p.room - o⟩) ((h.put b (some (.cells cs .st anc))).put fresh (some (.cells (cs.drop o ++ new) (.rw pl) (b :: anc)))) w' := by
  obtain ⟨T, cc, fz, f1, f2, f3, f4, f5⟩ := S.cellsAt hg hp
  obtain ⟨hB, hfz, hpl⟩ := f5 pl rfl
  have hlv := VRL.length hv
  have hE := Rho.ext_put (ρ := ρ) (b := fresh) ⟨p.blk, p.base + o, p.room - o⟩ hf
  have hbf : b ≠ fresh := fun e => by subst e; rw [hf] at hp; cases hp
  refine ⟨_, by
    have := run_storeCells (P := P) new' w p.blk (p.base + cs.length) 0 cc T fz f1 (vrl_oneCell hv hall) (by omega) hfz
    exact this, ?_⟩
  have hlt := lt_of_heap f1
  have hget : ∀ c ob, ((h.put b (some (.cells cs .st anc))).put fresh (some (.cells (cs.drop o ++ new) (.rw pl) (b :: anc)))).get c = some ob →
      (c = fresh ∧ ob = .cells (cs.drop o ++ new) (.rw pl) (b :: anc)) ∨ (c = b ∧ c ≠ fresh ∧ ob = .cells cs .st anc) ∨ (c ≠ b ∧ c ≠ fresh ∧ h.get c = some ob) := by
    intro c ob hc
    rw [Heap.get_put] at hc
    split at hc
    · rename_i ec; exact .inl ⟨ec.symm, (Option.some.inj hc).symm⟩
    · rename_i ec
      rw [Heap.get_put] at hc
      split at hc
      · rename_i ec2; exact .inr (.inl ⟨ec2.symm, fun x => ec x.symm, (Option.some.inj hc).symm⟩)
      · rename_i ec2; exact .inr (.inr ⟨fun x => ec2 x.symm, fun x => ec x.symm, hc⟩)
  have hput : ∀ c q, ρ.put fresh ⟨p.blk, p.base + o, p.room - o⟩ c = some q → (c = fresh ∧ q = ⟨p.blk, p.base + o, p.room - o⟩) ∨ (c ≠ fresh ∧ ρ c = some q) := fun c q hc => by
    unfold Rho.put at hc
    split at hc
    · rename_i e; exact .inl ⟨e.symm, (Option.some.inj hc).symm⟩
    · rename_i e; exact .inr ⟨fun e' => e e'.symm, hc⟩
  have hl2 : (layV cc.toList (p.base + cs.length + 0) new').length = cc.size := by rw [length_layV]; simp
  have getL : ∀ i, (layV cc.toList (p.base + cs.length + 0) new')[i]? = if p.base + cs.length ≤ i ∧ i < p.base + cs.length + new'.length then new'[i - (p.base + cs.length)]? else cc.toList[i]? := fun i => by
    rw [get_layV _ _ _ _ (by simp; omega)]; simp only [Nat.add_zero]
  -- a block of the same concrete one as b is b, or an ancestor of it, and ends where b ends at most
  have same : ∀ c ob q, c ≠ b → h.get c = some ob → ρ c = some q → p.blk = q.blk → c ∈ anc ∧ ∃ cs2 md2 anc2, ob = .cells cs2 md2 anc2 ∧ (∀ pl2, md2 ≠ .rw pl2) ∧ q.base + cs2.length ≤ p.base + cs.length :=
    fun c ob q hc hgc hq heq => S.sep b cs pl anc p c ob q hg hp hgc hq (fun x => hc x.symm) heq
  -- cells before the end are as they were
  have keep : ∀ (q : Pos) (cs2 : List AV) (cc2 : Array Value) (T2 : TypeId) (fz2 : Nat × Nat), w.heap[q.blk]? = some (.cells cc2 T2 fz2) → (p.blk = q.blk → q.base + cs2.length ≤ p.base + cs.length) → q.base + q.room = cc2.size → cs2.length ≤ q.room → VRL ρ cs2 ((cc2.toList.drop q.base).take cs2.length) →
      ∃ cc3, (Go.Proofs.YtahdafekballcaaGreat.AM.withBlk w p.blk (.cells (layV cc.toList (p.base + cs.length + 0) new').toArray T fz)).heap[q.blk]? = some (.cells cc3 T2 fz2) ∧ cc3.size = cc2.size ∧ VRL ρ cs2 ((cc3.toList.drop q.base).take cs2.length) := by
    intro q cs2 cc2 T2 fz2 hw hq hr hlr hrel
    by_cases heq : p.blk = q.blk
    · rw [← heq] at hw
      rw [f1] at hw
      injection hw with hw
      injection hw with h1 h2 h3
      subst h1 h2 h3
      refine ⟨_, by rw [heap_withBlk _ _ _ _ hlt, if_pos heq], by simp [length_layV], ?_⟩
      have hle := hq heq
      have : ((layV cc.toList (p.base + cs.length + 0) new').toArray.toList.drop q.base).take cs2.length = (cc.toList.drop q.base).take cs2.length := by
        apply List.ext_getElem?
        intro i
        simp only [List.getElem?_take, List.getElem?_drop, getL]
        split
        · rw [if_neg (by omega)]
        · rfl
      rw [this]; exact hrel
    · exact ⟨cc2, by rw [heap_withBlk _ _ _ _ hlt, if_neg heq]; exact hw, rfl, hrel⟩
  refine { below := below_withBlk S.below hB hlt _, bsize := S.bsize, dom := ?_, blk := ?_, map := ?_, sep := ?_, msep := ?_, ancl := ?_ }
  rotate_right
  · intro c cs' md a hc x hx
    show x < h.next
    rcases hget c _ hc with ⟨rfl, ec⟩ | ⟨rfl, hne, ec⟩ | ⟨hne, hne2, hc⟩
    · injection ec with e1 e2 e3
      subst e3
      rcases List.mem_cons.1 hx with rfl | hx
      · exact S.lt hg
      · exact S.ancl _ _ _ _ hg x hx
    · injection ec with e1 e2 e3
      subst e3; exact S.ancl _ _ _ _ hg x hx
    · exact S.ancl c cs' md a hc x hx
  · intro c q hc
    rcases hput c q hc with ⟨rfl, _⟩ | ⟨_, hc⟩
    · exact hl
    · exact S.dom c q hc
  · intro c cs' md' anc' hc
    rcases hget c _ hc with ⟨rfl, ec⟩ | ⟨rfl, hne, ec⟩ | ⟨hne, hne2, hc⟩
    · injection ec with e1 e2 e3
      subst e1 e2 e3
      refine ⟨⟨p.blk, p.base + o, p.room - o⟩, T, _, fz, by simp [Rho.put], by rw [heap_withBlk _ _ _ _ hlt, if_pos rfl], ?_, ?_, ?_, fun pl' hpl' => ?_⟩
      · simp only [List.size_toArray, hl2]; omega
      · simp only [List.length_append, List.length_drop]; omega
      · refine VRL.mono hE (VRL.of_get ?_ ?_)
        · simp only [List.length_append, List.length_drop, List.length_take, hl2]; omega
        · intro i v hv1
          have hi : i < (cs.drop o ++ new).length := (List.getElem?_eq_some_iff.1 hv1).1
          simp only [List.length_append, List.length_drop] at hi
          rw [List.getElem?_take, if_pos (by simp only [List.length_append, List.length_drop]; omega), List.getElem?_drop]
          simp only [getL]
          rw [List.getElem?_append] at hv1
          split at hv1
          · rename_i hlo
            rw [List.length_drop] at hlo
            rw [List.getElem?_drop] at hv1
            rw [if_neg (by omega)]
            obtain ⟨v', e1, e2⟩ := VRL.get f4 _ _ hv1
            rw [List.getElem?_take, if_pos (by omega), List.getElem?_drop] at e1
            exact ⟨v', by rw [show p.base + o + i = p.base + (o + i) by omega]; exact e1, e2⟩
          · rename_i hlo
            rw [List.length_drop] at hlo hv1
            rw [if_pos (by omega)]
            obtain ⟨v', e1, e2⟩ := VRL.get hv _ _ hv1
            exact ⟨v', by rw [show p.base + o + i - (p.base + cs.length) = i - (cs.length - o) by omega]; exact e1, e2⟩
      · injection hpl' with hh
        subst hh
        exact ⟨hB, fun i hi => hfz i (by simpa [length_layV] using hi), hpl⟩
    · injection ec with e1 e2 e3
      subst e1 e2 e3
      obtain ⟨cc3, k1, k2, k3⟩ := keep p cs' cc T fz f1 (fun _ => Nat.le_refl _) f2 f3 f4
      exact ⟨p, T, cc3, fz, hE _ _ hp, k1, by omega, f3, k3.mono hE, fun _ hh => by cases hh⟩
    · obtain ⟨q, T', cc', fz', g1, g2, g3, g4, g5, g6⟩ := S.blk c cs' md' anc' hc
      obtain ⟨cc3, k1, k2, k3⟩ := keep q cs' cc' T' fz' g2 (fun heq => by
        obtain ⟨_, cs2, md2, anc2, h1, _, h2⟩ := same c _ q hne hc g1 heq
        injection h1 with h1 _ _
        subst h1; exact h2) g3 g4 g5
      refine ⟨q, T', cc3, fz', hE _ _ g1, k1, by omega, g4, k3.mono hE, fun pl' hh => ?_⟩
      obtain ⟨m1, m2, m3⟩ := g6 pl' hh
      exact ⟨m1, fun i hi => m2 i (by omega), m3⟩
  · intro c es k hc
    rcases hget c _ hc with ⟨rfl, ec⟩ | ⟨rfl, hne, ec⟩ | ⟨hne, hne2, hc⟩
    · cases ec
    · cases ec
    · obtain ⟨q, es', g1, g2, g3, g4⟩ := S.map c es k hc
      refine ⟨q, es', hE _ _ g1, ?_, g3.mono hE, g4⟩
      rw [heap_withBlk _ _ _ _ hlt, if_neg]
      · exact g2
      · intro heq
        obtain ⟨_, cs2, md2, anc2, h1, _⟩ := same c _ q hne hc g1 heq
        cases h1
  · intro c cs' pl' anc' q c2 o2 q2 h1 h2 h3 h4 h5 h6
    rcases hget c _ h1 with ⟨rfl, ec⟩ | ⟨rfl, hne, ec⟩ | ⟨hne, hne2, h1'⟩
    · injection ec with e1 e2 e3
      injection e2 with e2
      subst e1 e2 e3
      rcases hput _ _ h2 with ⟨_, rfl⟩ | ⟨hx, _⟩
      · rcases hget c2 _ h3 with ⟨rfl, _⟩ | ⟨rfl, hn2, ec2⟩ | ⟨hn2, hn3, h3'⟩
        · exact absurd rfl h5
        · rcases hput _ _ h4 with ⟨e3, _⟩ | ⟨_, h4'⟩
          · exact absurd e3 hn2
          · rw [hp] at h4'; obtain rfl := Option.some.inj h4'
            refine ⟨by simp, cs, .st, anc, ec2, (fun _ hh => by cases hh), ?_⟩
            simp only [List.length_append, List.length_drop]; omega
        · rcases hput _ _ h4 with ⟨e3, _⟩ | ⟨_, h4'⟩
          · exact absurd e3 hn3
          · obtain ⟨m1, cs2, md2, anc2, m2, m3, m4⟩ := same c2 _ q2 hn2 h3' h4' h6
            refine ⟨by simp [m1], cs2, md2, anc2, m2, m3, ?_⟩
            simp only [List.length_append, List.length_drop]; omega
      · exact absurd rfl hx
    · cases ec
    · rcases hput _ _ h2 with ⟨e2, _⟩ | ⟨_, h2'⟩
      · exact absurd e2 hne2
      · have hpq : p.blk ≠ q.blk := fun heq => by
          obtain ⟨_, cs2, md2, anc2, m2, m3, _⟩ := same c _ q hne h1' h2' heq
          injection m2 with _ m2 _
          exact m3 _ m2.symm
        rcases hget c2 _ h3 with ⟨rfl, _⟩ | ⟨rfl, hn2, ec2⟩ | ⟨hn2, hn3, h3'⟩
        · rcases hput _ _ h4 with ⟨_, rfl⟩ | ⟨hx, _⟩
          · exact absurd h6.symm hpq
          · exact absurd rfl hx
        · rcases hput _ _ h4 with ⟨e3, _⟩ | ⟨_, h4'⟩
          · exact absurd e3 hn2
          · rw [hp] at h4'; obtain rfl := Option.some.inj h4'
            exact absurd h6.symm hpq
        · rcases hput _ _ h4 with ⟨e3, _⟩ | ⟨_, h4'⟩
          · exact absurd e3 hn3
          · exact S.sep c cs' pl' anc' q c2 o2 q2 h1' h2' h3' h4' h5 h6
  · intro c es k q c2 o2 q2 h1 h2 h3 h4 h5
    rcases hget c _ h1 with ⟨rfl, ec⟩ | ⟨rfl, hne, ec⟩ | ⟨hne, hne2, h1'⟩
    · cases ec
    · cases ec
    · rcases hput _ _ h2 with ⟨e2, _⟩ | ⟨_, h2'⟩
      · exact absurd e2 hne2
      · have hpq : q.blk ≠ p.blk := S.msep c es k q b _ p h1' h2' hg hp hne
        rcases hget c2 _ h3 with ⟨rfl, _⟩ | ⟨rfl, hn2, ec2⟩ | ⟨hn2, hn3, h3'⟩
        · rcases hput _ _ h4 with ⟨_, rfl⟩ | ⟨hx, _⟩
          · exact hpq
          · exact absurd rfl hx
        · rcases hput _ _ h4 with ⟨e3, _⟩ | ⟨_, h4'⟩
          · exact absurd e3 hn2
          · rw [hp] at h4'; obtain rfl := Option.some.inj h4'
            exact hpq
        · rcases hput _ _ h4 with ⟨e3, _⟩ | ⟨_, h4'⟩
          · exact absurd e3 hn3
          · exact S.msep c es k q c2 o2 q2 h1' h2' h3' h4' h5


/-! ### What an operation must do -/
/-- In the world w the action yields what v stands for; the abstract heap is h' behind it. -/
def Does (P : Program) (B : Nat) (w0 : World) (ρ : Rho) (h : Heap) (w : World) (fresh : Nat) (s : Sem Value) (v : AV) (h' : Heap) : Prop :=
  ∃ ρ' w' v', s.run P w = .ok v' w' ∧ VR ρ' v v' ∧ Sim B w0 ρ' h' w' ∧ Ext ρ ρ' ∧ (∀ b, b ≠ fresh → ρ' b = ρ b) ∧ h'.next = h.next

def DoesU (P : Program) (B : Nat) (w0 : World) (ρ : Rho) (h : Heap) (w : World) (s : Sem Unit) (h' : Heap) : Prop :=
  ∃ w', s.run P w = .ok () w' ∧ Sim B w0 ρ h' w' ∧ h'.next = h.next

theorem Does.of_pure (S : Sim B w0 ρ h w) {fresh : Nat} {s : Sem Value} {v : AV} (e : ∃ v', s.run P w = .ok v' w ∧ VR ρ v v') : Does P B w0 ρ h w fresh s v h := by
  obtain ⟨v', h1, h2⟩ := e
  exact ⟨ρ, w, v', h1, h2, S, Ext.refl _, fun _ _ => rfl, rfl⟩

theorem put_other {ρ : Rho} {fresh : Nat} (p : Pos) : ∀ b, b ≠ fresh → ρ.put fresh p b = ρ b := fun b hb => by
  unfold Rho.put
  rw [if_neg (fun e => hb e.symm)]

theorem storeA_ok (S : Sim B w0 ρ h w) {t : TypeId} {a v : AV} {a' v' : Value} {h' : Heap} (e : storeA P h t a v = some h') (ha : VR ρ a a') (hv : VR ρ v v') : DoesU P B w0 ρ h w (Instr.storeAt t a' v') h' := by
  unfold storeA at e
  split at e
  · cases ha
    rename_i b o p hp
    split at e
    · rename_i vs n hc hn
      rw [cond_eq_ite] at e
      split at e
      · rename_i hl
        have hl := Nat.eq_of_beq_eq_true hl
        have hr := hv.cells hc
        obtain ⟨w', h1, h2, h3⟩ := S.poke (P := P) e hp hr
        refine ⟨w', ?_, h2, h3⟩
        have hlen : v'.cells.size = n := by rw [← hl, VRL.length hr]; simp
        simp only [Instr.storeAt, Instr.sureAddr, Sem.run_bind, Sem.run_pure, Result.andThen_ok, storeVar, run_sizeOf' hn]
        rw [if_neg (by simpa using hlen)]
        exact h1
      · simp at e
    · simp at e
  · simp at e

/-- A new block, from its cells. -/
theorem Sim.newRow (S : Sim B w0 ρ h w) {fresh : Nat} (hf : ρ fresh = none) (hl : fresh < h.next) {cs : List AV} {cc : Array Value} (T : TypeId) (hv : VRL ρ cs cc.toList) :
    Sim B w0 (ρ.put fresh ⟨w.heap.size, 0, cc.size⟩) (newA h fresh cs) (w.alloc (.cells cc T)) := by
  have hlen := VRL.length hv
  refine S.new hf hl T (0, 0) true (by rw [hlen]; simp) ?_ (fun i _ => by omega) (fun _ => rfl)
  rw [hlen, List.take_length]; exact hv

theorem allocA_ok (S : Sim B w0 ρ h w) {fresh : Nat} (hf : ρ fresh = none) (hl : fresh < h.next) {t : TypeId} {v : AV} {h' : Heap} (e : allocA P h fresh t = some (v, h')) :
    Does P B w0 ρ h w fresh (Instr.alloc t true (.tuple #[])) v h' := by
  unfold allocA at e
  split at e
  · rename_i z hz
    split at e
    · rename_i cs hcs
      obtain ⟨rfl, rfl⟩ := Prod.mk.inj (Option.some.inj e)
      obtain ⟨zv, h1, h2⟩ := run_zeroValue' hz w ρ
      refine ⟨_, _, _, ?_, .ptr fresh 0 ⟨w.heap.size, 0, zv.cells.size⟩ (by simp [Rho.put]), S.newRow hf hl t (h2.cells hcs), Rho.ext_put _ hf, put_other _, rfl⟩
      simp [Instr.alloc, h1, newVar, newRow]
    · simp at e
  · simp at e

theorem boxA_ok (S : Sim B w0 ρ h w) {fresh : Nat} (hf : ρ fresh = none) (hl : fresh < h.next) (t : TypeId) {x v : AV} {x' : Value} {h' : Heap} (e : boxA h fresh x = some (v, h')) (hx : VR ρ x x') :
    Does P B w0 ρ h w fresh (Instr.box t x') v h' := by
  unfold boxA at e
  split at e
  · rename_i cs hcs
    obtain ⟨rfl, rfl⟩ := Prod.mk.inj (Option.some.inj e)
    refine ⟨_, _, _, ?_, .ptr fresh 0 ⟨w.heap.size, 0, x'.cells.size⟩ (by simp [Rho.put]), S.newRow hf hl t (hx.cells hcs), Rho.ext_put _ hf, put_other _, rfl⟩
    simp [Instr.box, newVar, newRow]
  · simp at e


/-! ### Building -/
theorem zipIdx_fold (off : Nat) : ∀ (vs : List Value) (j : Nat) (cells : Array Value),
    ((vs.zipIdx j).foldl (fun (cs : Array Value) (x : Value × Nat) => cs.setIfInBounds (off + x.2) x.1) cells).toList = layV cells.toList (off + j) vs
  | [], j, cells => by simp [layV]
  | v :: vs, j, cells => by
    simp only [List.zipIdx_cons, List.foldl_cons, layV]
    rw [zipIdx_fold off vs (j + 1)]
    simp [Nat.add_assoc]

inductive PR (ρ : Rho) : List (Nat × AV) → List (Nat × Value) → Prop where
  | nil : PR ρ [] []
  | cons (i : Nat) (v : AV) (v' : Value) (ps : List (Nat × AV)) (ps' : List (Nat × Value)) (h : VR ρ v v') (hs : PR ρ ps ps') : PR ρ ((i, v) :: ps) ((i, v') :: ps')

theorem fillA_ok {place place' : Nat → Option (Nat × Nat)} (hpl : ∀ i x, place i = some x → place' i = some x) : ∀ {ps : List (Nat × AV)} {ps' : List (Nat × Value)} {cells r : List AV} {cells' : Array Value},
    PR ρ ps ps' → VRL ρ cells cells'.toList → fillA place cells ps = some r → ∃ r', Instr.fill place' cells' ps' = some r' ∧ VRL ρ r r'.toList
  | _, _, cells, r, cells', .nil, hc, e => by
    simp only [fillA] at e
    obtain rfl := Option.some.inj e
    exact ⟨cells', rfl, hc⟩
  | _, _, cells, r, cells', .cons i v v' ps ps' h2 hs, hc, e => by
    simp only [fillA] at e
    split at e
    · simp at e
    · rename_i off size hp
      split at e
      · simp at e
      · rename_i vs hvs
        rw [cond_eq_ite] at e
        split at e
        · rename_i hcond
          simp only [Bool.and_eq_true] at hcond
          have hl := Nat.eq_of_beq_eq_true hcond.1
          have hle := Nat.le_of_ble_eq_true hcond.2
          have hr := h2.cells hvs
          have hlen := VRL.length hr
          have hlc := VRL.length hc
          obtain ⟨r', k1, k2⟩ := fillA_ok hpl (cells' := (v'.cells.zipIdx.foldl (fun cs (c, j) => cs.setIfInBounds (off + j) c) cells')) hs (by
            have := zipIdx_fold off v'.cells.toList 0 cells'
            rw [← Array.foldl_toList, Array.toList_zipIdx]
            rw [this]
            exact VRL.lay _ hc hr) e
          refine ⟨r', ?_, k2⟩
          simp only [Instr.fill, hpl _ _ hp]
          rw [if_neg]
          · exact k1
          · simp only [Array.length_toList] at hlen hlc
            simp only [Bool.or_eq_true, decide_eq_true_eq, not_or, Nat.not_lt, ne_eq, Decidable.not_not]
            omega
        · simp at e

theorem parts_ok {e : Env} {a : Act} (F : FR ρ e a.tmps) : ∀ {xs : List (Nat × Operand)} {vs : List (Nat × AV)}, parts e xs = some vs →
    PR ρ vs (xs.map fun (i, x) => (i, a.eval x))
  | [], vs, h => by simp [parts] at h; subst h; exact .nil
  | (i, x) :: xs, vs, h => by
    simp only [parts] at h
    split at h
    · simp at h
    · rename_i v hv
      split at h
      · simp at h
      · rename_i vs' hvs
        obtain rfl := Option.some.inj h
        exact .cons _ _ _ _ _ (opv_ok F hv) (parts_ok F hvs)

end Go.Proofs.YtahdafekballcaaGreat.AM
