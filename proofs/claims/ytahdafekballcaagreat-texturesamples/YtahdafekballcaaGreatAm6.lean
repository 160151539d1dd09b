/-
  AM, part 6: append, copy.
-/
import Derived.Test.YtahdafekballcaaGreatAm5
namespace Go.Proofs.YtahdafekballcaaGreat.AM
open Go Go.RowKit
set_option linter.unusedVariables false
set_option linter.unusedSimpArgs false

variable {P : Program} {ρ : Rho} {B : Nat} {w0 w : World} {h : Heap}

theorem str_cells (bs : ByteArray) : VRL ρ (bs.data.toList.map fun b => AV.int .u8 b.toNat) (bs.data.map fun b => Value.int .u8 b.toNat).toList := by
  rw [Array.toList_map]
  generalize bs.data.toList = l
  induction l with
  | nil => exact .nil
  | cons b l ih => exact .cons _ _ _ _ (.int _ _) ih

/-- What is appended or copied, read. -/
theorem cellsOfA_ok {sz n : Nat} {x : AV} {x' : Value} {l : List AV} (e : cellsOfA h sz x = some (n, l)) (hx : VR ρ x x') :
    (∀ w, (Builtin.lenOf x').run P w = .ok n w) ∧ l.length = n * sz ∧ (∀ B w0 w, Sim B w0 ρ h w → ∀ m, m ≤ n → ∃ l', (Builtin.firstCells sz m x').run P w = .ok l' w ∧ VRL ρ (l.take (m * sz)) l'.toList) := by
  unfold cellsOfA at e
  split at e
  · cases hx
    obtain ⟨rfl, rfl⟩ := Prod.mk.inj (Option.some.inj e)
    exact ⟨fun w => rfl, by simp, fun B w0 w S m hm => ⟨#[], rfl, by simpa using VRL.nil⟩⟩
  · rename_i b o len cap ex sz'
    cases hx
    rename_i p c' ad hp g1 g3 g2 g4
    rw [cond_eq_ite] at e
    split at e
    · rename_i hsz
      obtain rfl : sz' = sz := Nat.eq_of_beq_eq_true hsz
      cases hc : cut (rdA h b) o (len * sz') with
      | none => simp [hc] at e
      | some l0 =>
        simp only [hc, Option.map_some] at e
        obtain ⟨rfl, rfl⟩ := Prod.mk.inj (Option.some.inj e)
        obtain ⟨k1, k2, k3⟩ := cut_spec hc
        refine ⟨fun w => rfl, k3, fun B w0 w S m hm => ?_⟩
        rcases g4 with g4 | ⟨rfl, g4⟩
        · obtain rfl : m = 0 := by omega
          refine ⟨#[], ?_, by simpa using VRL.nil⟩
          simp [Builtin.firstCells, Go.loadCells, loadCellsFrom]
        · have hmm : m * sz' ≤ len * sz' := Nat.mul_le_mul_right _ hm
          have hcm : cut (rdA h b) o (m * sz') = some (l0.take (m * sz')) := by
            unfold cut
            rw [cond_eq_ite, if_pos (Nat.ble_eq_true_of_le (by omega)), k2, List.take_take, Nat.min_eq_left hmm]
          obtain ⟨l', h1, h2⟩ := S.loadRd (P := P) hp hcm
          exact ⟨l', by simpa [Builtin.firstCells] using h1, h2⟩
    · simp at e
  · rename_i s
    cases hx
    rename_i bs hbs
    rw [cond_eq_ite] at e
    split at e
    · rename_i hsz
      obtain rfl : sz = 1 := Nat.eq_of_beq_eq_true hsz
      obtain ⟨rfl, rfl⟩ := Prod.mk.inj (Option.some.inj e)
      subst hbs
      refine ⟨fun w => ?_, by simp, fun B w0 w S m hm => ⟨(bs.extract 0 m).data.map fun b => Value.int .u8 b.toNat, rfl, ?_⟩⟩
      · simp only [Builtin.lenOf, Sem.run_pure]
        rw [Array.length_toList]; rfl
      · have := str_cells (ρ := ρ) (bs.extract 0 m)
        rw [drop_take_extract] at this
        simpa [List.map_take] using this
    · simp at e
  · simp at e

theorem zeroCells_size (z : Array Value) (n : Nat) : (Builtin.zeroCells z n).size = n * z.size := by simp [Builtin.zeroCells]

/-- append_, from where the two ways part. -/
def inPlaceV (base : Option Addr) (sLen n sCap sz : Nat) (x' : Value) : Sem Value := do
  let new ← Builtin.firstCells sz n x'
  if let some a := base then storeCells (a.add (sLen * sz)) new.toList
  pure (.slice base (sLen + n) sCap)

def growV (el : TypeId) (base : Option Addr) (s' x' : Value) (sLen n sCap sz : Nat) : Sem Value := do
  if ((sLen + n : Nat) : Int) > IntKind.i64.max ∧ (False ∨ (← typeInfo el).bytes = 0) then runtimePanic (.error "growslice: len out of range")
  if Builtin.nextslicecap (sLen + n) sCap * (← typeInfo el).bytes > 2 ^ 48 then (do
    if !(← Builtin.mayShare sz sLen n base x') then mark .noRoom
    unsupported (.resourceLimit "append: a slice or a string whose bytes no memory bears"))
  let newCap ← choose (.appendCap (sLen + n) sCap el)
  askRoom (newCap * (← typeInfo el).bytes)
  let old ← Builtin.firstCells sz sLen s'
  let new ← Builtin.firstCells sz n x'
  let rest := Builtin.zeroCells (← zeroValue el).cells (newCap - (sLen + n))
  pure (.slice (some (← newRow el (old ++ new ++ rest))) (sLen + n) newCap)

/-- Marks that say less. -/
def Lab (o o' : AObj) : Prop := o = o' ∨ ∃ cs md anc md' anc', o = .cells cs md anc ∧ o' = .cells cs md' anc' ∧ (∀ x ∈ anc, x ∈ anc') ∧ ((∃ p, md = .rw true ∧ md' = .rw p) ∨ md' = .st)

theorem Sim.relabel (S : Sim B w0 ρ h w) {h' : Heap} (hn : h'.next = h.next) (hal : ∀ b cs md a, h'.get b = some (.cells cs md a) → ∀ x ∈ a, x < h'.next) (hg : ∀ b o', h'.get b = some o' → ∃ o, h.get b = some o ∧ Lab o o') : Sim B w0 ρ h' w := by
  have lab_map : ∀ o es c, Lab o (.map es c) → o = .map es c := fun o es c hl => by
    rcases hl with rfl | ⟨_, _, _, _, _, _, e, _⟩
    · rfl
    · cases e
  have lab_cells : ∀ o cs md anc, Lab o (.cells cs md anc) → ∃ md0 anc0, o = .cells cs md0 anc0 ∧ (∀ x ∈ anc0, x ∈ anc) ∧ (∀ pl, md = .rw pl → ∃ pl0, md0 = .rw pl0 ∧ (pl = true → pl0 = true)) := fun o cs md anc hl => by
    rcases hl with rfl | ⟨cs', md0, anc0, md', anc', rfl, e, h1, h2⟩
    · exact ⟨md, anc, rfl, fun _ h => h, fun pl h => ⟨pl, h, id⟩⟩
    · injection e with e1 e2 e3
      subst e1 e2 e3
      refine ⟨md0, anc0, rfl, h1, fun pl hpl => ?_⟩
      rcases h2 with ⟨p, rfl, h2⟩ | h2
      · exact ⟨true, rfl, fun _ => rfl⟩
      · rw [h2] at hpl; cases hpl
  refine { below := S.below, bsize := S.bsize, dom := fun b p hp => by rw [hn]; exact S.dom b p hp, blk := ?_, map := ?_, sep := ?_, msep := ?_, ancl := hal }
  · intro b cs md anc hb
    obtain ⟨o, ho, hl⟩ := hg b _ hb
    obtain ⟨md0, anc0, rfl, _, hmd⟩ := lab_cells _ _ _ _ hl
    obtain ⟨p, T, cc, fz, h1, h2, h3, h4, h5, h6⟩ := S.blk b cs md0 anc0 ho
    refine ⟨p, T, cc, fz, h1, h2, h3, h4, h5, fun pl hpl => ?_⟩
    obtain ⟨pl0, e0, e1⟩ := hmd pl hpl
    obtain ⟨k1, k2, k3⟩ := h6 pl0 e0
    exact ⟨k1, k2, fun ht => k3 (e1 ht)⟩
  · intro r es c hr
    obtain ⟨o, ho, hl⟩ := hg r _ hr
    obtain rfl := lab_map _ _ _ hl
    exact S.map r es c ho
  · intro b cs pl anc p b2 o2 p2 h1 h2 h3 h4 h5 h6
    obtain ⟨o, ho, hl⟩ := hg b _ h1
    obtain ⟨md0, anc0, rfl, hanc, hmd⟩ := lab_cells _ _ _ _ hl
    obtain ⟨pl0, rfl, _⟩ := hmd pl rfl
    obtain ⟨o', ho', hl'⟩ := hg b2 _ h3
    obtain ⟨k1, cs2, md2, anc2, k2, k3, k4⟩ := S.sep b cs pl0 anc0 p b2 o' p2 ho h2 ho' h4 h5 h6
    subst k2
    refine ⟨hanc _ k1, ?_⟩
    rcases hl' with rfl | ⟨cs', md', anc', md'', anc'', e, rfl, _, h7⟩
    · exact ⟨cs2, md2, anc2, rfl, k3, k4⟩
    · injection e with e1 e2 e3
      subst e1 e2 e3
      refine ⟨cs2, md'', anc'', rfl, fun pl2 hh => ?_, k4⟩
      rcases h7 with ⟨q, e, _⟩ | e
      · exact k3 _ e
      · rw [e] at hh; cases hh
  · intro r es c p b2 o2 p2 h1 h2 h3 h4 h5
    obtain ⟨o, ho, hl⟩ := hg r _ h1
    obtain rfl := lab_map _ _ _ hl
    obtain ⟨o', ho', _⟩ := hg b2 _ h3
    exact S.msep r es c p b2 o' p2 ho h2 ho' h4 h5

theorem growV_ok (S : Sim B w0 ρ h w) {fresh : Nat} (hf : ρ fresh = none) (hl : fresh < h.next) {el : TypeId} {i : TypeInfo} (hi : P.info? el = some i) {zv : Value} (z1 : ∀ w, (zeroValue el).run P w = .ok zv w) (hzs : zv.cells.size = i.size)
    {base : Option Addr} {s' x' : Value} {sLen n sCap : Nat} {old new : List AV} (hgt : sCap < sLen + n) (hb1 : (sLen + n) * i.bytes ≤ 140737488355328) (hb2 : sLen + n ≤ 140737488355328)
    (hlo : old.length = sLen * i.size) (hln : new.length = n * i.size)
    (hold : ∀ w2, Sim B w0 ρ h w2 → ∃ l', (Builtin.firstCells i.size sLen s').run P w2 = .ok l' w2 ∧ VRL ρ old l'.toList)
    (hnew : ∀ w2, Sim B w0 ρ h w2 → ∃ l', (Builtin.firstCells i.size n x').run P w2 = .ok l' w2 ∧ VRL ρ new l'.toList) :
    ∃ newCap w', sLen + n ≤ newCap ∧ (growV el base s' x' sLen n sCap i.size).run P w = .ok (.slice (some ⟨w.heap.size, 0, none⟩) (sLen + n) newCap) w' ∧
      Sim B w0 (ρ.put fresh ⟨w.heap.size, 0, newCap * i.size⟩) (newA h fresh (old ++ new)) w' := by
  have h63 : ¬ (((sLen + n : Nat) : Int) > IntKind.i64.max ∧ (False ∨ i.bytes = 0)) := by rw [IntKind.max_i64]; omega
  have hfit : ¬ (Builtin.nextslicecap (sLen + n) sCap * i.bytes > 2 ^ 48) := by
    have := growslice_fits (bytes := i.bytes) hgt hb1
    omega
  obtain ⟨lo, k1, k2⟩ := hold w.drew S.drew
  obtain ⟨ln, k3, k4⟩ := hnew w.drew S.drew
  have c1 : lo.size = sLen * i.size := by rw [← hlo, VRL.length k2]; simp
  have c2 : ln.size = n * i.size := by rw [← hln, VRL.length k4]; simp
  refine ⟨(Question.appendCap (sLen + n) sCap el).cut (w.tape w.drawn (.appendCap (sLen + n) sCap el)),
    w.drew.alloc (.cells (lo ++ ln ++ Builtin.zeroCells zv.cells ((Question.appendCap (sLen + n) sCap el).cut (w.tape w.drawn (.appendCap (sLen + n) sCap el)) - (sLen + n))) el), by simp [Question.cut], ?_, ?_⟩
  · unfold growV
    simp only [Sem.run_bind, run_typeInfo' hi, Result.andThen_ok]
    rw [if_neg h63]
    simp only [Sem.run_bind, run_typeInfo' hi, Result.andThen_ok]
    rw [if_neg hfit]
    simp only [Sem.run_bind, run_choose, Question.forced, Bool.false_eq_true, if_false, Result.andThen_ok, run_typeInfo' hi, run_askRoom, World.drew_eq, k1, k3, z1, newRow, run_newObj, Sem.run_pure, World.size_drew]
    rfl
  · generalize hcap : (Question.appendCap (sLen + n) sCap el).cut (w.tape w.drawn (.appendCap (sLen + n) sCap el)) = newCap
    have hge : sLen + n ≤ newCap := by rw [← hcap]; simp [Question.cut]
    have hsz : (lo ++ ln ++ Builtin.zeroCells zv.cells (newCap - (sLen + n))).size = newCap * i.size := by
      simp only [Array.size_append, c1, c2, zeroCells_size, hzs]
      rw [← Nat.add_mul, ← Nat.add_mul]
      congr 1; omega
    have := S.drew.new hf hl (cs := old ++ new) (cc := lo ++ ln ++ Builtin.zeroCells zv.cells (newCap - (sLen + n))) el (0, 0) true (by
      rw [hsz, List.length_append, hlo, hln, ← Nat.add_mul]; exact Nat.mul_le_mul_right _ hge) (by
      have ha := VRL.append k2 k4
      have e : (lo ++ ln ++ Builtin.zeroCells zv.cells (newCap - (sLen + n))).toList.take (old ++ new).length = lo.toList ++ ln.toList := by
        rw [Array.toList_append, Array.toList_append, VRL.length ha, List.take_left]
      rw [e]; exact ha) (fun _ _ => by omega) (fun _ => rfl)
    rw [hsz] at this
    exact this

theorem appendA_ok (S : Sim B w0 ρ h w) {fresh : Nat} (hf : ρ fresh = none) (hl : fresh < h.next) {ts tx ty : TypeId} {s x v : AV} {s' x' : Value} {h' : Heap} {r : Array TypeId} (hr0 : r[0]? = some ts) (hr1 : r[1]? = some tx)
    (e : appendA P h fresh ts tx s x = some (v, h')) (hs : VR ρ s s') (hx : VR ρ x x') : Does P B w0 ρ h w fresh (Builtin.append_ r ty #[s', x']) v h' := by
  unfold appendA at e
  split at e
  · rename_i el dx hu hux
    split at e
    · rename_i z i hz hi
      obtain ⟨zv, z1, z2, z3, z4⟩ := run_zeroCellsAll hz ρ
      have hsz : sizeA P el = some i.size := by simp [sizeA, hi]
      have hzl : z.length = i.size := by rw [hsz] at z3; exact (Option.some.inj z3).symm
      split at e
      · simp at e
      · rename_i hc
        simp only [Bool.or_eq_true, not_or, Bool.not_eq_true] at hc
        obtain ⟨hc1, hc2⟩ := hc
        have hpos : 0 < i.size := by
          rcases Nat.eq_zero_or_pos i.size with h0 | h0
          · rw [h0] at hc2; simp at hc2
          · exact h0
        split at e
        · simp at e
        · rename_i n new hnew
          obtain ⟨len_run, hlnew, first_run⟩ := cellsOfA_ok (P := P) hnew hx
          -- append_, run as far as the two ways part
          have head : ∀ (base : Option Addr) (sLen sCap : Nat), s' = .slice base sLen sCap →
              (Builtin.append_ r ty #[s', x']).run P w = (if sLen + n ≤ sCap then (inPlaceV base sLen n sCap i.size x').run P w else (growV el base s' x' sLen n sCap i.size).run P w) := by
            intro base sLen sCap hs'
            subst hs'
            cases dx <;> first
              | (simp [isIntD] at hc1; done)
              | (unfold Builtin.append_
                 simp only [hr0, hr1, List.getElem?_toArray, List.getElem?_cons_zero, List.getElem?_cons_succ]
                 simp only [Sem.run_bind, run_underlying hu, Result.andThen_ok, run_sizeOf' hsz, run_underlying hux, Sem.run_pure, len_run, Bool.false_eq_true, if_false, Bool.not_false, if_true]
                 by_cases hle : sLen + n ≤ sCap
                 · rw [if_pos hle, if_pos hle]
                   rfl
                 · rw [if_neg hle, if_neg hle]
                   rfl)
          have hfirst : ∀ w2, Sim B w0 ρ h w2 → ∃ l', (Builtin.firstCells i.size n x').run P w2 = .ok l' w2 ∧ VRL ρ new l'.toList := fun w2 S2 => by
            obtain ⟨l', q1, q2⟩ := first_run B w0 w2 S2 n (Nat.le_refl _)
            rw [← hlnew, List.take_length] at q2
            exact ⟨l', q1, q2⟩
          have hzs : zv.cells.size = i.size := by rw [z4, hzl]
          split at e
          · -- a nil slice
            cases hs
            have hd := head none 0 0 rfl
            split at e
            · rename_i hn0
              obtain rfl : n = 0 := Nat.eq_of_beq_eq_true hn0
              obtain ⟨rfl, rfl⟩ := Prod.mk.inj (Option.some.inj e)
              obtain ⟨l', q1, q2⟩ := hfirst w S
              refine ⟨ρ, w, .slice none 0 0, ?_, .nils, S, Ext.refl _, fun _ _ => rfl, rfl⟩
              rw [hd, if_pos (by omega)]
              simp only [inPlaceV, Sem.run_bind, q1, Result.andThen_ok, Sem.run_pure]
            · rename_i hn0
              have hn0 : 0 < n := by
                rcases Nat.eq_zero_or_pos n with h0 | h0
                · subst h0; simp at hn0
                · exact h0
              split at e
              · rename_i hb
                simp only [Bool.and_eq_true] at hb
                have hb1 := Nat.le_of_ble_eq_true hb.1
                have hb2 := Nat.le_of_ble_eq_true hb.2
                obtain ⟨rfl, rfl⟩ := Prod.mk.inj (Option.some.inj e)
                obtain ⟨newCap, w', q1, q2, q3⟩ := growV_ok (P := P) S hf hl hi z1 hzs (base := none) (s' := .slice none 0 0) (x' := x') (sLen := 0) (n := n) (sCap := 0) (old := []) (new := new) (by omega) (by simpa using hb1) (by omega) (by simp) hlnew
                  (fun w2 S2 => ⟨#[], rfl, .nil⟩) hfirst
                refine ⟨_, w', .slice (some ⟨w.heap.size, 0, none⟩) n newCap, ?_, ?_, q3, Rho.ext_put _ hf, put_other _, rfl⟩
                · rw [hd, if_neg (by omega), q2, Nat.zero_add]
                · exact .slice fresh 0 n n false i.size ⟨w.heap.size, 0, newCap * i.size⟩ newCap _ (by simp [Rho.put]) (by omega) (by simp) (Nat.le_refl _) (.inr ⟨rfl, by simp⟩)
              · simp at e
          · -- a slice
            rename_i b o len cap ex sz
            cases hs
            rename_i p c' ad hp g1 g3 g2 g4
            have hd := head (some ad) len c' rfl
            split at e
            · simp at e
            · rename_i hszb
              obtain rfl : sz = i.size := Nat.eq_of_beq_eq_true (by simpa using hszb)
              split at e
              · rename_i hn0
                obtain rfl : n = 0 := Nat.eq_of_beq_eq_true hn0
                obtain ⟨rfl, rfl⟩ := Prod.mk.inj (Option.some.inj e)
                obtain ⟨l', q1, q2⟩ := hfirst w S
                have hnil : l'.toList = [] := by
                  have := VRL.length q2
                  rw [hlnew] at this
                  simpa using this.symm
                refine ⟨ρ, w, .slice (some ad) len c', ?_, .slice _ _ _ _ _ _ p _ _ hp g1 g2 g3 g4, S, Ext.refl _, fun _ _ => rfl, rfl⟩
                rw [hd, if_pos (by omega)]
                simp only [inPlaceV, Sem.run_bind, q1, Result.andThen_ok, hnil, storeCells, Sem.run_pure, Nat.add_zero]
              · rename_i hn0
                have hn0 : 0 < n := by
                  rcases Nat.eq_zero_or_pos n with h0 | h0
                  · subst h0; simp at hn0
                  · exact h0
                split at e
                · simp at e
                · rename_i hb
                  simp only [Bool.not_eq_true', Bool.not_eq_false, Bool.and_eq_true] at hb
                  have hb1 := Nat.le_of_ble_eq_true hb.1
                  have hb2 := Nat.le_of_ble_eq_true hb.2
                  split at e
                  · -- there is room for sure
                    rename_i hcap
                    have hcap := Nat.le_of_ble_eq_true hcap
                    split at e
                    · rename_i h1 hpk
                      obtain ⟨rfl, rfl⟩ := Prod.mk.inj (Option.some.inj e)
                      obtain ⟨l', q1, q2⟩ := hfirst w S
                      rcases g4 with g4 | ⟨rfl, g4⟩
                      · omega
                      obtain ⟨w', q3, q4, q5⟩ := S.poke (P := P) hpk hp q2
                      refine ⟨ρ, w', .slice (some ⟨p.blk, p.base + o, none⟩) (len + n) c', ?_, .slice _ _ _ _ _ _ p _ _ hp g1 g2 hcap (.inr ⟨rfl, g4⟩), q4, Ext.refl _, fun _ _ => rfl, q5⟩
                      rw [hd, if_pos (by omega)]
                      simp only [inPlaceV, Sem.run_bind, q1, Result.andThen_ok, Addr.add_none, Nat.add_assoc, q3, Sem.run_pure]
                    · simp at e
                  · rename_i hcap
                    have hcap : ¬ (len + n ≤ cap) := fun hh => hcap (Nat.ble_eq_true_of_le hh)
                    split at e
                    · rename_i cs md anc hg
                      split at e
                      · simp at e
                      · rename_i old hcut
                        obtain ⟨m1, m2, m3⟩ := cut_spec hcut
                        have hold : ∀ w2, Sim B w0 ρ h w2 → ∃ l', (Builtin.firstCells i.size len (.slice (some ad) len c')).run P w2 = .ok l' w2 ∧ VRL ρ old l'.toList := fun w2 S2 => by
                          rcases g4 with g4 | ⟨rfl, g4⟩
                          · obtain rfl : len = 0 := by omega
                            refine ⟨#[], ?_, ?_⟩
                            · simp [Builtin.firstCells, Go.loadCells, loadCellsFrom]
                            · rw [m2]; simpa using VRL.nil
                          · obtain ⟨l', q1, q2⟩ := S2.loadCells (P := P) hg hp hcut
                            exact ⟨l', by simpa [Builtin.firstCells] using q1, q2⟩
                        split at e
                        · -- the room is known, and too small
                          rename_i hex
                          obtain ⟨rfl, rfl⟩ := Prod.mk.inj (Option.some.inj e)
                          have hc' := g2 hex
                          obtain ⟨newCap, w', q1, q2, q3⟩ := growV_ok (P := P) S hf hl hi z1 hzs (base := some ad) (s' := .slice (some ad) len c') (x' := x') (sCap := c') (old := old) (new := new) (by omega) hb1 hb2 m3 hlnew hold hfirst
                          refine ⟨ρ.put fresh ⟨w.heap.size, 0, newCap * i.size⟩, w', .slice (some ⟨w.heap.size, 0, none⟩) (len + n) newCap, ?_, .slice fresh 0 (len + n) (len + n) false i.size ⟨w.heap.size, 0, newCap * i.size⟩ newCap _ (by simp [Rho.put]) q1 (by simp) (Nat.le_refl _) (.inr ⟨rfl, by simp⟩), q3, Rho.ext_put _ hf, put_other _, rfl⟩
                          rw [hd, if_neg (by omega), q2]
                        · split at e
                          · rename_i pl
                            split at e
                            · rename_i hend
                              simp only [Bool.and_eq_true] at hend
                              have hend1 := Nat.eq_of_beq_eq_true hend.1
                              obtain ⟨rfl, rfl⟩ := Prod.mk.inj (Option.some.inj e)
                              have holdd : old = cs.drop o := by
                                rw [m2]
                                rw [List.take_of_length_le (by simp; omega)]
                              by_cases hroom : len + n ≤ c'
                              · -- in place
                                rcases g4 with g4 | ⟨rfl, g4⟩
                                · omega
                                obtain ⟨l', q1, q2⟩ := hfirst w S
                                have hmul : (len + n) * i.size ≤ c' * i.size := Nat.mul_le_mul_right _ hroom
                                rw [Nat.add_mul] at hmul
                                obtain ⟨w', q3, q4⟩ := S.extend (P := P) hg hp (o := o) (by omega) q2 hend.2 (by omega) hf hl
                                refine ⟨ρ.put fresh ⟨p.blk, p.base + o, p.room - o⟩, w', .slice (some ⟨p.blk, p.base + o, none⟩) (len + n) c', ?_, .slice fresh 0 (len + n) (len + n) false i.size ⟨p.blk, p.base + o, p.room - o⟩ c' _ (by simp [Rho.put]) hroom (by simp) (Nat.le_refl _) (.inr ⟨by simp, by simp only; omega⟩), ?_, Rho.ext_put _ hf, put_other _, rfl⟩
                                · rw [hd, if_pos hroom]
                                  simp only [inPlaceV, Sem.run_bind, q1, Result.andThen_ok, Addr.add_none]
                                  rw [show p.base + o + len * i.size = p.base + cs.length by omega, q3]
                                  simp only [Result.andThen_ok, Sem.run_pure]
                                · rw [holdd]; exact q4
                              · obtain ⟨newCap, w', q1, q2, q3⟩ := growV_ok (P := P) S hf hl hi z1 hzs (base := some ad) (s' := .slice (some ad) len c') (x' := x') (sCap := c') (old := old) (new := new) (by omega) hb1 hb2 m3 hlnew hold hfirst
                                refine ⟨ρ.put fresh ⟨w.heap.size, 0, newCap * i.size⟩, w', .slice (some ⟨w.heap.size, 0, none⟩) (len + n) newCap, ?_, .slice fresh 0 (len + n) (len + n) false i.size ⟨w.heap.size, 0, newCap * i.size⟩ newCap _ (by simp [Rho.put]) q1 (by simp) (Nat.le_refl _) (.inr ⟨rfl, by simp⟩), ?_, Rho.ext_put _ hf, put_other _, rfl⟩
                                · rw [hd, if_neg hroom, q2]
                                · refine q3.relabel rfl (fun c cs' md a hc x hx => ?_) ?_
                                  · show x < h.next
                                    rw [Heap.get_put] at hc
                                    split at hc
                                    · injection hc with hc; injection hc with e1 e2 e3
                                      subst e3
                                      rcases List.mem_cons.1 hx with rfl | hx
                                      · exact S.lt hg
                                      · exact S.ancl _ _ _ _ hg x hx
                                    · rw [Heap.get_put] at hc
                                      split at hc
                                      · injection hc with hc; injection hc with e1 e2 e3
                                        subst e3; exact S.ancl _ _ _ _ hg x hx
                                      · exact S.ancl _ _ _ _ hc x hx
                                  intro c o' hc
                                  have hbf : b ≠ fresh := fun e => by subst e; rw [hf] at hp; cases hp
                                  rw [Heap.get_put] at hc
                                  unfold newA
                                  rw [Heap.get_put]
                                  split at hc
                                  · rename_i ec
                                    obtain rfl := Option.some.inj hc
                                    rw [if_pos ec]
                                    exact ⟨_, rfl, .inr ⟨_, _, _, _, _, rfl, rfl, by simp, .inl ⟨pl, rfl, rfl⟩⟩⟩
                                  · rename_i ec
                                    rw [if_neg ec]
                                    rw [Heap.get_put] at hc
                                    split at hc
                                    · rename_i ec2
                                      subst ec2
                                      obtain rfl := Option.some.inj hc
                                      exact ⟨_, hg, .inr ⟨_, _, _, _, _, rfl, rfl, fun _ h => h, .inr rfl⟩⟩
                                    · exact ⟨_, hc, .inl rfl⟩
                            · simp at e
                          · simp at e
                    · simp at e
          · simp at e
    · simp at e
  · simp at e

theorem copyA_ok (S : Sim B w0 ρ h w) {fresh : Nat} {td ty : TypeId} {d s v : AV} {d' s' : Value} {h' : Heap} {r : Array TypeId} (hr0 : r[0]? = some td)
    (e : copyA P h td d s = some (v, h')) (hd : VR ρ d d') (hs : VR ρ s s') : Does P B w0 ρ h w fresh (Builtin.copy_ r ty #[d', s']) v h' := by
  unfold copyA at e
  split at e
  · rename_i el hu
    split at e
    · rename_i sz hsz
      split at e
      · simp at e
      · split at e
        · simp at e
        · rename_i n cs hcs
          obtain ⟨len_run, hln, first_run⟩ := cellsOfA_ok (P := P) hcs hs
          split at e
          · cases hd
            obtain ⟨rfl, rfl⟩ := Prod.mk.inj (Option.some.inj e)
            obtain ⟨l', q1, q2⟩ := first_run B w0 w S 0 (Nat.zero_le _)
            refine ⟨ρ, w, .int .i64 0, ?_, .int _ _, S, Ext.refl _, fun _ _ => rfl, rfl⟩
            have hm0 : Nat.min n 0 = 0 := by simp
            simp [Builtin.copy_, hr0, run_underlying hu, len_run, run_sizeOf' hsz, hm0, q1, goInt]
          · cases hd
            rename_i p c' ad hp g1 g3 g2 g4
            split at e
            · simp at e
            · split at e
              · rename_i hz
                have hz := Nat.eq_of_beq_eq_true hz
                obtain ⟨rfl, rfl⟩ := Prod.mk.inj (Option.some.inj e)
                obtain ⟨l', q1, q2⟩ := first_run B w0 w S 0 (Nat.zero_le _)
                have hnil : l'.toList = [] := by
                  have := VRL.length q2
                  simpa using this.symm
                refine ⟨ρ, w, .int .i64 0, ?_, .int _ _, S, Ext.refl _, fun _ _ => rfl, rfl⟩
                simp only [Builtin.copy_, hr0, List.getElem?_toArray, List.getElem?_cons_zero, List.getElem?_cons_succ, Sem.run_bind, run_underlying hu, Result.andThen_ok, len_run, run_sizeOf' hsz, hz, q1, hnil, storeCells, Sem.run_pure]
                rfl
              · rename_i hz
                split at e
                · rename_i h1 hpk
                  obtain ⟨rfl, rfl⟩ := Prod.mk.inj (Option.some.inj e)
                  obtain ⟨l', q1, q2⟩ := first_run B w0 w S _ (Nat.min_le_left n _)
                  rcases g4 with g4 | ⟨rfl, g4⟩
                  · exfalso
                    apply hz
                    rename_i len cap ex sz' _ _
                    have : len = 0 := by omega
                    subst this
                    simp
                  obtain ⟨w', q3, q4, q5⟩ := S.poke (P := P) hpk hp q2
                  refine ⟨ρ, w', .int .i64 _, ?_, .int _ _, q4, Ext.refl _, fun _ _ => rfl, q5⟩
                  simp only [Builtin.copy_, hr0, List.getElem?_toArray, List.getElem?_cons_zero, List.getElem?_cons_succ, Sem.run_bind, run_underlying hu, Result.andThen_ok, len_run, run_sizeOf' hsz, q1, q3, Sem.run_pure]
                  rfl
                · simp at e
          · simp at e
    · simp at e
  · simp at e

theorem clearA_ok (S : Sim B w0 ρ h w) {fresh : Nat} {td ty : TypeId} {x v : AV} {x' : Value} {h' : Heap} {r : Array TypeId} (hr0 : r[0]? = some td)
    (e : clearA P h td x = some (v, h')) (hx : VR ρ x x') : Does P B w0 ρ h w fresh (Builtin.clear_ r ty #[x']) v h' := by
  unfold clearA at e
  split at e
  · rename_i el hu
    split at e
    · cases hx
      obtain ⟨rfl, rfl⟩ := Prod.mk.inj (Option.some.inj e)
      refine ⟨ρ, w, .tuple #[], ?_, .tup _ _ .nil, S, Ext.refl _, fun _ _ => rfl, rfl⟩
      simp [Builtin.clear_, hr0, run_underlying hu]
    · cases hx
      rename_i p c' ad hp g1 g3 g2 g4
      split at e
      · rename_i hz
        have hz := Nat.eq_of_beq_eq_true hz
        subst hz
        obtain ⟨rfl, rfl⟩ := Prod.mk.inj (Option.some.inj e)
        refine ⟨ρ, w, .tuple #[], ?_, .tup _ _ .nil, S, Ext.refl _, fun _ _ => rfl, rfl⟩
        simp [Builtin.clear_, hr0, run_underlying hu]
      · rename_i hz
        split at e
        · rename_i z hzc
          split at e
          · rename_i hpos
            have hpos : 0 < z.length := Nat.le_of_ble_eq_true hpos
            split at e
            · rename_i h1 hpk
              obtain ⟨rfl, rfl⟩ := Prod.mk.inj (Option.some.inj e)
              obtain ⟨zv, k1, k2, k3, k4⟩ := run_zeroCells hzc w ρ
              rename_i b o len cap ex sz' _ _ _
              have hlen : len ≠ 0 := fun e => hz (by rw [e]; rfl)
              rcases g4 with g4 | ⟨rfl, g4⟩
              · exfalso
                omega
              obtain ⟨w', q3, q4, q5⟩ := S.poke (P := P) hpk hp (times_rel (n := len) k2 hpos)
              refine ⟨ρ, w', .tuple #[], ?_, .tup _ _ .nil, q4, Ext.refl _, fun _ _ => rfl, q5⟩
              obtain ⟨n, rfl⟩ : ∃ n, len = n + 1 := ⟨len - 1, by omega⟩
              have hq : Builtin.zeroCells zv.cells (n + 1) = (Array.range ((n + 1) * z.length)).map (zv.cells[· % zv.cells.size]!) := by
                unfold Builtin.zeroCells
                rw [k4]
              simp only [Builtin.clear_, hr0, List.getElem?_toArray, List.getElem?_cons_zero, Sem.run_bind, run_underlying hu, Result.andThen_ok, k1, hq, q3, Sem.run_pure]
            · simp at e
          · simp at e
        · simp at e
    · simp at e
  · simp at e

end Go.Proofs.YtahdafekballcaaGreat.AM
