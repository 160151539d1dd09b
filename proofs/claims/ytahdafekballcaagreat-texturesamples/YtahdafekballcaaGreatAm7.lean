/-
  AM, part 7: maps, conversions, assertions.
-/
import Derived.Test.YtahdafekballcaaGreatAm6
namespace Go.Proofs.YtahdafekballcaaGreat.AM
open Go Go.RowKit
set_option linter.unusedVariables false
set_option linter.unusedSimpArgs false

variable {P : Program} {ρ : Rho} {B : Nat} {w0 w : World} {h : Heap}

theorem run_getObj_map' {r : Nat} {es : Array MapEntry} {c : Nat} (hh : w.heap[r]? = some (.map es c)) : (getObj r).run P w = .ok (.map es c) w := by
  simp only [getObj, Sem.run, hh]
theorem run_setObj_map' {r : Nat} {es : Array MapEntry} {c : Nat} (hh : w.heap[r]? = some (.map es c)) (o : Obj) : (setObj r o).run P w = .ok () (withBlk w r o) := by
  simp only [setObj, Sem.run, hh]
  rfl

theorem run_getObj_iter {r : Nat} {bs : ByteArray} {c : Nat} (hh : w.heap[r]? = some (.stringIter bs c)) : (getObj r).run P w = .ok (.stringIter bs c) w := by
  simp only [getObj, Sem.run, hh]
theorem run_setObj_iter {r : Nat} {bs : ByteArray} {c : Nat} (hh : w.heap[r]? = some (.stringIter bs c)) (o : Obj) : (setObj r o).run P w = .ok () (withBlk w r o) := by
  simp only [setObj, Sem.run, hh]
  rfl

theorem checkKey_run {kt : TypeId} {d : TypeDesc} {k : AV} {k' : Value} (hu : P.underlying kt = some d) (hk : keyOk d k = true) (hr : VR ρ k k') (em : Bool) (n : Nat) : (Instr.checkKey em (n + 1) kt k').run P w = .ok () w := by
  unfold keyOk at hk
  split at hk
  · cases hr
    simp only [Instr.checkKey, Sem.run_bind, run_underlying hu, Result.andThen_ok, Sem.run_pure]
  · cases hr
    simp only [Instr.checkKey, Sem.run_bind, run_underlying hu, Result.andThen_ok, Sem.run_pure]
  · cases hr
    simp only [Instr.checkKey, Sem.run_bind, run_underlying hu, Result.andThen_ok, Sem.run_pure]
  · simp at hk

theorem bytes_beq (a b : ByteArray) : (a == b) = (a.data.toList == b.data.toList) := by
  have h1 : (a == b) = (a.data == b.data) := rfl
  rw [h1]
  by_cases hab : a.data = b.data
  · rw [hab, beq_self_eq_true, beq_self_eq_true]
  · have : ¬ (a.data.toList = b.data.toList) := fun e => hab (Array.toList_inj.1 e)
    rw [beq_eq_false_iff_ne.mpr hab, beq_eq_false_iff_ne.mpr this]

theorem keyEq_ok {d : TypeDesc} {k e : AV} {k' e' : Value} {b : Bool} (hb : keyEq d k e = some b) (hk : VR ρ k k') (he : VR ρ e e') :
    Instr.sameNow d k' e' = some b ∧ (b = true → k = e ∧ k' = e') := by
  unfold keyEq at hb
  split at hb
  · cases hk; cases he
    split at hb
    · split at hb
      · rename_i hkk
        subst hkk
        obtain rfl := Option.some.inj hb
        refine ⟨by simp [Instr.sameNow], fun h => ?_⟩
        have := eq_of_beq h
        subst this
        exact ⟨rfl, rfl⟩
      · simp at hb
    · simp at hb
  · cases hk; cases he
    rename_i bs hbs bs' hbs'
    split at hb
    · obtain rfl := Option.some.inj hb
      refine ⟨by simp only [Instr.sameNow]; rw [bytes_beq, hbs, hbs'], fun h => ?_⟩
      have h1 := eq_of_beq h
      subst h1
      refine ⟨rfl, ?_⟩
      have : bs = bs' := by
        have : bs.data = bs'.data := Array.toList_inj.1 (hbs.trans hbs'.symm)
        cases bs; cases bs'; simp at this; subst this; rfl
      rw [this]
    · simp at hb
  · cases hk; cases he
    split at hb
    · obtain rfl := Option.some.inj hb
      refine ⟨by simp only [Instr.sameNow], fun h => ?_⟩
      have h1 := eq_of_beq h
      subst h1
      exact ⟨rfl, rfl⟩
    · simp at hb
  · simp at hb

theorem findA_ok {d : TypeDesc} {k : AV} {k' : Value} (hk : VR ρ k k') : ∀ {es : List (AV × AV × Nat)} {es' : List MapEntry} {i : Nat} {r : Option (Nat × AV)}, ER ρ es es' → findA d k es i = some r →
    (r = none ∧ Instr.findNow d k' es' i = some none) ∨ (∃ j v v' e e', r = some (j, v) ∧ Instr.findNow d k' es' i = some (some (j, v')) ∧ VR ρ v v' ∧ i ≤ j ∧ es[j - i]? = some e ∧ es'[j - i]? = some e' ∧ e.1 = k ∧ e'.key = k')
  | _, _, i, r, .nil, e => by
    simp only [findA] at e
    obtain rfl := Option.some.inj e
    exact .inl ⟨rfl, rfl⟩
  | _, _, i, r, .cons ek ev n ek' ev' es es' hek hev h, e => by
    simp only [findA] at e
    split at e
    · rename_i hb
      obtain ⟨h1, h2⟩ := keyEq_ok hb hk hek
      obtain ⟨rfl, rfl⟩ := h2 rfl
      obtain rfl := Option.some.inj e
      exact .inr ⟨i, ev, ev', (k, ev, n), { key := k', val := ev', born := n }, rfl, by simp [Instr.findNow, h1], hev, Nat.le_refl _, by simp, by simp, rfl, rfl⟩
    · rename_i hb
      obtain ⟨h1, _⟩ := keyEq_ok hb hk hek
      rcases findA_ok hk h e with ⟨rfl, h2⟩ | ⟨j, v, v', en, en', rfl, h2, h3, h4, h5, h6, h7⟩
      · exact .inl ⟨rfl, by simp [Instr.findNow, h1, h2]⟩
      · refine .inr ⟨j, v, v', en, en', rfl, by simp [Instr.findNow, h1, h2], h3, by omega, ?_, ?_, h7⟩
        · rw [show j - i = (j - (i + 1)) + 1 by omega]; simpa using h5
        · rw [show j - i = (j - (i + 1)) + 1 by omega]; simpa using h6
    · simp at e

theorem findA_plain {d : TypeDesc} {k : AV} {es : List (AV × AV × Nat)} {i : Nat} {r : Option (Nat × AV)} (h : findA d k es i = some r) : plainE es = true := by
  unfold plainE
  split
  · rename_i l v n rest
    simp only [findA] at h
    have : keyEq d k (.tup l) = none := by cases k <;> rfl
    rw [this] at h
    cases h
  · rfl

theorem Sim.mapAtO (S : Sim B w0 ρ h w) {r : Nat} {es : List (AV × AV × Nat)} {c : Nat} {p : Pos} (hg : h.get r = some (.map es c)) (hp : ρ r = some p) :
    ∃ ob, w.heap[p.blk]? = some ob ∧ MO ρ p es c ob ∧ B ≤ p.blk := by
  obtain ⟨q, ob, e1, e2, e3, e4⟩ := S.map _ _ _ hg
  rw [hp] at e1; obtain rfl := Option.some.inj e1
  exact ⟨ob, e2, e3, e4⟩

theorem Sim.mapAt (S : Sim B w0 ρ h w) {r : Nat} {es : List (AV × AV × Nat)} {c : Nat} {p : Pos} (hg : h.get r = some (.map es c)) (hp : ρ r = some p) (hpl : plainE es = true) :
    ∃ es', w.heap[p.blk]? = some (.map es' c) ∧ ER ρ es es'.toList ∧ B ≤ p.blk := by
  obtain ⟨ob, e2, e3, e4⟩ := S.mapAtO hg hp
  obtain ⟨es', rfl, e5⟩ := e3.plain hpl
  exact ⟨es', e2, e5, e4⟩

theorem findKey_run {kt : TypeId} {d : TypeDesc} {k' : Value} {es : List MapEntry} {r : Option (Nat × Value)} (hu : P.underlying kt = some d) (hf : Instr.findNow d k' es 0 = some r) : (Instr.findKey kt k' es).run P w = .ok r w := by
  simp only [Instr.findKey, Sem.run_bind, run_underlying hu, Result.andThen_ok, hf, Sem.run_pure]

theorem lookupA_ok (S : Sim B w0 ρ h w) {t : TypeId} {x k v : AV} {x' k' : Value} {ok : Bool} (e : lookupA P h t x k ok = some v) (hx : VR ρ x x') (hk : VR ρ k k') : ∃ v', (Instr.lookup t x' k' ok).run P w = .ok v' w ∧ VR ρ v v' := by
  unfold lookupA at e
  split at e
  · rename_i kt et hu
    split at e
    · rename_i d hd
      rw [cond_eq_ite] at e
      split at e
      · rename_i hkk
        have hck : ∀ em, (Instr.checkKey em 10000 kt k').run P w = .ok () w := fun em => checkKey_run hd hkk hk em 9999
        split at e
        · cases hx
          cases hz : zeroA P et with
          | none => simp [hz] at e
          | some z =>
            simp only [hz, Option.map_some] at e
            obtain rfl := Option.some.inj e
            obtain ⟨zv, z1, z2⟩ := run_zeroValue' hz w ρ
            refine ⟨if ok then .tuple #[zv, .bool false] else zv, ?_, ?_⟩
            · have hfk : (Instr.findKey kt k' ([] : List MapEntry)).run P w = .ok none w := findKey_run hd rfl
              simp only [Instr.lookup, Sem.run_bind, run_underlying hu, Result.andThen_ok, Sem.run_pure, hck, hfk, z1]
            · cases ok
              · exact z2
              · exact .tup _ _ (.cons _ _ _ _ z2 (.cons _ _ _ _ (.bool _) .nil))
        · cases hx
          rename_i r p hp
          split at e
          · rename_i es c hg
            split at e
            · rename_i j v0 hfi
              obtain ⟨es', m1, m2, m3⟩ := S.mapAt hg hp (findA_plain hfi)
              obtain rfl := Option.some.inj e
              rcases findA_ok hk m2 hfi with ⟨h1, _⟩ | ⟨j', v', v'', _, _, h1, h2, h3, _⟩
              · cases h1
              · obtain ⟨rfl, rfl⟩ := Prod.mk.inj (Option.some.inj h1)
                refine ⟨if ok then .tuple #[v'', .bool true] else v'', ?_, ?_⟩
                · have hfk := findKey_run (P := P) (w := w) hd h2
                  simp only [Instr.lookup, Sem.run_bind, run_underlying hu, Result.andThen_ok, run_getObj_map' m1, Sem.run_pure, hck, hfk]
                · cases ok
                  · exact h3
                  · exact .tup _ _ (.cons _ _ _ _ h3 (.cons _ _ _ _ (.bool _) .nil))
            · rename_i hfi
              obtain ⟨es', m1, m2, m3⟩ := S.mapAt hg hp (findA_plain hfi)
              cases hz : zeroA P et with
              | none => simp [hz] at e
              | some z =>
                simp only [hz, Option.map_some] at e
                obtain rfl := Option.some.inj e
                obtain ⟨zv, z1, z2⟩ := run_zeroValue' hz w ρ
                rcases findA_ok hk m2 hfi with ⟨_, h2⟩ | ⟨j', v', v'', _, _, h1, _⟩
                · refine ⟨if ok then .tuple #[zv, .bool false] else zv, ?_, ?_⟩
                  · have hfk := findKey_run (P := P) (w := w) hd h2
                    simp only [Instr.lookup, Sem.run_bind, run_underlying hu, Result.andThen_ok, run_getObj_map' m1, Sem.run_pure, hck, hfk, z1]
                  · cases ok
                    · exact z2
                    · exact .tup _ _ (.cons _ _ _ _ z2 (.cons _ _ _ _ (.bool _) .nil))
                · cases h1
            · simp at e
          · simp at e
        · simp at e
      · simp at e
    · simp at e
  · simp at e

theorem ER.length {es : List (AV × AV × Nat)} {es' : List MapEntry} (h : ER ρ es es') : es.length = es'.length := by
  induction h with
  | nil => rfl
  | cons _ _ _ _ _ _ _ _ _ _ ih => simp [ih]

theorem ER.append {a b : List (AV × AV × Nat)} {a' b' : List MapEntry} (h : ER ρ a a') (h2 : ER ρ b b') : ER ρ (a ++ b) (a' ++ b') := by
  induction h with
  | nil => exact h2
  | cons _ _ _ _ _ _ _ hk hv _ ih => exact .cons _ _ _ _ _ _ _ hk hv ih

theorem ER.setNth {es : List (AV × AV × Nat)} {es' : List MapEntry} (hh : ER ρ es es') : ∀ (i : Nat) {k' : Value} {v : AV} {v' : Value} (hk : ∀ e, es[i]? = some e → VR ρ e.1 k') (hv : VR ρ v v'),
    ER ρ (AM.setNth es i v) (es'.modify i fun e => { e with key := k', val := v' }) := by
  induction hh with
  | nil => intro i k' v v' hk hv; simpa [AM.setNth] using ER.nil
  | cons k v n k' v' es es' hek hev h ih =>
    intro i k2 v2 v2' hk hv
    cases i with
    | zero =>
      simp only [AM.setNth, List.modify_zero_cons]
      exact .cons _ _ _ _ _ _ _ (hk _ rfl) hv h
    | succ i =>
      simp only [AM.setNth, List.modify_succ_cons]
      exact .cons _ _ _ _ _ _ _ hek hev (ih i (fun e he => hk e (by simpa using he)) hv)

/-- A map's block gets other entries. -/
theorem Sim.putMap (S : Sim B w0 ρ h w) {r : Nat} {es es2 : List (AV × AV × Nat)} {c c2 : Nat} {ob2 : Obj} {p : Pos} (hg : h.get r = some (.map es c)) (hp : ρ r = some p) (he : MO ρ p es2 c2 ob2) :
    Sim B w0 ρ (h.put r (some (.map es2 c2))) (withBlk w p.blk ob2) := by
  obtain ⟨ob1, m1, m2, m3⟩ := S.mapAtO hg hp
  have hlt := lt_of_heap m1
  have hget : ∀ b o, (h.put r (some (.map es2 c2))).get b = some o → (b = r ∧ o = .map es2 c2) ∨ (b ≠ r ∧ h.get b = some o) := fun b o hb => by
    rw [Heap.get_put] at hb
    split at hb
    · rename_i e; exact .inl ⟨e.symm, (Option.some.inj hb).symm⟩
    · rename_i e; exact .inr ⟨fun x => e x.symm, hb⟩
  have other : ∀ b o q, b ≠ r → h.get b = some o → ρ b = some q → p.blk ≠ q.blk := fun b o q hb hgb hq => S.msep r es c p b o q hg hp hgb hq (fun x => hb x.symm)
  refine { below := below_withBlk S.below m3 hlt _, bsize := S.bsize, dom := fun b q hb => S.dom b q hb, blk := ?_, map := ?_, sep := ?_, msep := ?_, ancl := ?_ }
  rotate_right
  · intro b cs md a hb x hx
    rcases hget b _ hb with ⟨rfl, e⟩ | ⟨hne, hb⟩
    · cases e
    · exact S.ancl b cs md a hb x hx
  · intro b cs md anc hb
    rcases hget b _ hb with ⟨rfl, e⟩ | ⟨hne, hb⟩
    · cases e
    · obtain ⟨q, T, cc, fz, h1, h2, h3⟩ := S.blk b cs md anc hb
      exact ⟨q, T, cc, fz, h1, by rw [heap_withBlk _ _ _ _ hlt, if_neg (other b _ q hne hb h1)]; exact h2, h3⟩
  · intro b es3 c3 hb
    rcases hget b _ hb with ⟨rfl, e⟩ | ⟨hne, hb⟩
    · injection e with e1 e2
      subst e1 e2
      exact ⟨p, ob2, hp, by rw [heap_withBlk _ _ _ _ hlt, if_pos rfl], he, m3⟩
    · obtain ⟨q, es4, h1, h2, h3⟩ := S.map b es3 c3 hb
      exact ⟨q, es4, h1, by rw [heap_withBlk _ _ _ _ hlt, if_neg (other b _ q hne hb h1)]; exact h2, h3⟩
  · intro b cs pl anc q b2 o2 q2 h1 h2 h3 h4 h5 h6
    rcases hget b _ h1 with ⟨rfl, e⟩ | ⟨hne, h1'⟩
    · cases e
    · rcases hget b2 _ h3 with ⟨rfl, e⟩ | ⟨hne2, h3'⟩
      · rw [hp] at h4; obtain rfl := Option.some.inj h4
        exact absurd h6.symm (other b _ q hne h1' h2)
      · exact S.sep b cs pl anc q b2 o2 q2 h1' h2 h3' h4 h5 h6
  · intro b es3 c3 q b2 o2 q2 h1 h2 h3 h4 h5
    rcases hget b _ h1 with ⟨rfl, e⟩ | ⟨hne, h1'⟩
    · rw [hp] at h2; obtain rfl := Option.some.inj h2
      rcases hget b2 _ h3 with ⟨rfl, e⟩ | ⟨hne2, h3'⟩
      · exact absurd rfl h5
      · exact other b2 _ q2 hne2 h3' h4
    · rcases hget b2 _ h3 with ⟨rfl, e⟩ | ⟨hne2, h3'⟩
      · rw [hp] at h4; obtain rfl := Option.some.inj h4
        exact fun x => other b _ q hne h1' h2 x.symm
      · exact S.msep b es3 c3 q b2 o2 q2 h1' h2 h3' h4 h5

/-- A new map. -/
theorem Sim.newMapO (S : Sim B w0 ρ h w) {fresh : Nat} (hf : ρ fresh = none) (hl : fresh < h.next) {es0 : List (AV × AV × Nat)} {c0 : Nat} {ob0 : Obj} (hmo : MO (ρ.put fresh ⟨w.heap.size, 0, 0⟩) ⟨w.heap.size, 0, 0⟩ es0 c0 ob0) :
    Sim B w0 (ρ.put fresh ⟨w.heap.size, 0, 0⟩) (h.put fresh (some (.map es0 c0))) (w.alloc ob0) := by
  have hE := Rho.ext_put (ρ := ρ) (b := fresh) ⟨w.heap.size, 0, 0⟩ hf
  have hB : B ≤ w.heap.size := Nat.le_trans S.bsize S.below.size
  have old : ∀ k o, w.heap[k]? = some o → (w.alloc ob0).heap[k]? = some o := fun k o hk => by
    rw [show (w.alloc ob0).heap[k]? = _ from heap_push w _ k, if_neg (Nat.ne_of_lt (lt_of_heap hk))]; exact hk
  have new : (w.alloc ob0).heap[w.heap.size]? = some ob0 := by
    rw [show (w.alloc ob0).heap[w.heap.size]? = _ from heap_push w _ _, if_pos rfl]
  have hput : ∀ c q, ρ.put fresh ⟨w.heap.size, 0, 0⟩ c = some q → (c = fresh ∧ q = ⟨w.heap.size, 0, 0⟩) ∨ (c ≠ fresh ∧ ρ c = some q) := fun c q hc => by
    unfold Rho.put at hc
    split at hc
    · rename_i e; exact .inl ⟨e.symm, (Option.some.inj hc).symm⟩
    · rename_i e; exact .inr ⟨fun e' => e e'.symm, hc⟩
  have hget : ∀ b o, (h.put fresh (some (.map es0 c0))).get b = some o → (b = fresh ∧ o = .map es0 c0) ∨ (b ≠ fresh ∧ h.get b = some o) := fun b o hb => by
    rw [Heap.get_put] at hb
    split at hb
    · rename_i e; exact .inl ⟨e.symm, (Option.some.inj hb).symm⟩
    · rename_i e; exact .inr ⟨fun x => e x.symm, hb⟩
  have blt : ∀ b o p, h.get b = some o → ρ b = some p → p.blk < w.heap.size := fun b o p hb hp => by
    cases o with
    | cells cs' md anc =>
      obtain ⟨p', _, _, _, h1, h2, _⟩ := S.blk b cs' md anc hb
      rw [hp] at h1; obtain rfl := Option.some.inj h1
      exact lt_of_heap h2
    | map es c =>
      obtain ⟨p', _, h1, h2, _⟩ := S.map b es c hb
      rw [hp] at h1; obtain rfl := Option.some.inj h1
      exact lt_of_heap h2
  refine { below := S.below.alloc hB _, bsize := S.bsize, dom := ?_, blk := ?_, map := ?_, sep := ?_, msep := ?_, ancl := ?_ }
  rotate_right
  · intro b cs md a hb x hx
    rcases hget b _ hb with ⟨rfl, e⟩ | ⟨hne, hb⟩
    · cases e
    · exact S.ancl b cs md a hb x hx
  · intro b p hp
    rcases hput b p hp with ⟨rfl, _⟩ | ⟨_, hp⟩
    · exact hl
    · exact S.dom b p hp
  · intro b cs md anc hb
    rcases hget b _ hb with ⟨rfl, e⟩ | ⟨hne, hb⟩
    · cases e
    · obtain ⟨p, T, cc, fz, h1, h2, h3, h4, h5, h6⟩ := S.blk b cs md anc hb
      exact ⟨p, T, cc, fz, hE _ _ h1, old _ _ h2, h3, h4, h5.mono hE, h6⟩
  · intro r es c hr
    rcases hget r _ hr with ⟨rfl, e⟩ | ⟨hne, hr⟩
    · injection e with e1 e2
      subst e1 e2
      exact ⟨⟨w.heap.size, 0, 0⟩, ob0, by simp [Rho.put], new, hmo, hB⟩
    · obtain ⟨p, es', h1, h2, h3, h4⟩ := S.map r es c hr
      exact ⟨p, es', hE _ _ h1, old _ _ h2, h3.mono hE, h4⟩
  · intro b cs pl anc p b2 o2 p2 h1 h2 h3 h4 h5 h6
    rcases hget b _ h1 with ⟨rfl, e⟩ | ⟨hne, h1'⟩
    · cases e
    · rcases hput _ _ h2 with ⟨e2, _⟩ | ⟨_, h2'⟩
      · exact absurd e2 hne
      · rcases hget b2 _ h3 with ⟨e3, _⟩ | ⟨hne2, h3'⟩
        · rcases hput _ _ h4 with ⟨_, rfl⟩ | ⟨hx, _⟩
          · have := blt _ _ _ h1' h2'
            simp at h6; omega
          · exact absurd e3 hx
        · rcases hput _ _ h4 with ⟨e4, _⟩ | ⟨_, h4'⟩
          · exact absurd e4 hne2
          · exact S.sep b cs pl anc p b2 o2 p2 h1' h2' h3' h4' h5 h6
  · intro r es c p b2 o2 p2 h1 h2 h3 h4 h5 h6
    rcases hget r _ h1 with ⟨rfl, e⟩ | ⟨hne, h1'⟩
    · rcases hput _ _ h2 with ⟨_, rfl⟩ | ⟨hx, _⟩
      · rcases hget b2 _ h3 with ⟨e3, _⟩ | ⟨hne2, h3'⟩
        · exact absurd e3.symm h5
        · rcases hput _ _ h4 with ⟨e4, _⟩ | ⟨_, h4'⟩
          · exact absurd e4 hne2
          · have := blt _ _ _ h3' h4'
            simp at h6; omega
      · exact absurd rfl hx
    · rcases hput _ _ h2 with ⟨e2, _⟩ | ⟨_, h2'⟩
      · exact absurd e2 hne
      · rcases hget b2 _ h3 with ⟨e3, _⟩ | ⟨hne2, h3'⟩
        · rcases hput _ _ h4 with ⟨_, rfl⟩ | ⟨hx, _⟩
          · have := blt _ _ _ h1' h2'
            simp at h6; omega
          · exact absurd e3 hx
        · rcases hput _ _ h4 with ⟨e4, _⟩ | ⟨_, h4'⟩
          · exact absurd e4 hne2
          · exact S.msep r es c p b2 o2 p2 h1' h2' h3' h4' h5 h6

theorem Sim.newMap (S : Sim B w0 ρ h w) {fresh : Nat} (hf : ρ fresh = none) (hl : fresh < h.next) :
    Sim B w0 (ρ.put fresh ⟨w.heap.size, 0, 0⟩) (h.put fresh (some (.map [] 0))) (w.alloc (.map #[] 0)) :=
  S.newMapO hf hl (.map _ _ _ rfl .nil)

theorem letterA_eq (bs : ByteArray) (i : Nat) (hi : i < bs.data.toList.length) : letterA bs.data.toList i = Utf8.decode bs i := by
  have hbs : (⟨bs.data.toList.toArray⟩ : ByteArray) = bs := by cases bs; rfl
  unfold letterA
  rw [List.drop_eq_getElem_cons hi]
  simp only
  cases hb : Nat.blt (bs.data.toList[i]'hi).toNat 128 with
  | false => simp only [cond_false]
  | true =>
    simp only [cond_true]
    have hlt : (bs.data.toList[i]'hi).toNat < 128 := Nat.le_of_ble_eq_true hb
    unfold Utf8.decode
    have h0 : (bs.get! (i + 0)).toNat = (bs.data.toList[i]'hi).toNat := by
      have : i < bs.data.size := by simpa using hi
      rw [Nat.add_zero]
      show (bs.data[i]!).toNat = _
      rw [getElem!_pos bs.data i this]
      simp
    simp only [h0]
    rw [if_pos (by omega)]

theorem rangeA_ok (S : Sim B w0 ρ h w) {fresh : Nat} (hf : ρ fresh = none) (hl : fresh < h.next) {t : TypeId} (ht : P.underlying t = some .string) {s : List UInt8} {x' : Value} {v : AV} {h' : Heap} (e : rangeA h fresh s = some (v, h')) (hx : VR ρ (.str s) x') :
    Does P B w0 ρ h w fresh (Instr.range t x') v h' := by
  cases hx
  rename_i bs hbs
  unfold rangeA at e
  obtain ⟨rfl, rfl⟩ := Prod.mk.inj (Option.some.inj e)
  refine ⟨ρ.put fresh ⟨w.heap.size, 0, 0⟩, w.alloc (.stringIter bs 0), .pointer (some ⟨w.heap.size, 0, none⟩), ?_, .ptr fresh 0 ⟨w.heap.size, 0, 0⟩ (by simp [Rho.put]), S.newMapO hf hl (.iter _ _ _ _ hbs rfl), Rho.ext_put _ hf, put_other _, rfl⟩
  simp only [Instr.range, Sem.run_bind, run_underlying ht, Result.andThen_ok, Sem.run_pure, run_newObj, World.alloc]

theorem nextA_ok (S : Sim B w0 ρ h w) {fresh : Nat} {ty : TypeId} {x v : AV} {x' : Value} {h' : Heap} (e : nextA h x = some (v, h')) (hx : VR ρ x x') : Does P B w0 ρ h w fresh (Instr.next x' true ty) v h' := by
  unfold nextA at e
  split at e
  · cases hx
    rename_i b p hp
    split at e
    · rename_i s pos hg
      obtain ⟨ob, m1, m2, m3⟩ := S.mapAtO hg hp
      have key : ∃ bs, ob = .stringIter bs pos ∧ bs.data.toList = s ∧ p.base = 0 := by
        generalize hes : [((AV.tup [AV.str s], AV.junk, 0) : AV × AV × Nat)] = es at m2
        cases m2 with
        | map es0 es' c0 hpl h2 =>
          subst hes
          cases hpl
        | iter s2 bs n c0 hs hp =>
          injection hes with hes _
          injection hes with hes _
          injection hes with hes
          injection hes with hes
          injection hes with hes
          exact ⟨_, rfl, by rw [hs, hes], hp⟩
      obtain ⟨bs, rfl, hbs, hb0⟩ := key
      rw [cond_eq_ite] at e
      split at e
      · rename_i hlt
        have hlt : pos < s.length := Nat.le_of_ble_eq_true hlt
        obtain ⟨rfl, rfl⟩ := Prod.mk.inj (Option.some.inj e)
        have hsz : pos < bs.size := by rw [← hbs] at hlt; simpa using hlt
        have hle : letterA s pos = Utf8.decode bs pos := by rw [← hbs]; exact letterA_eq bs pos (by rw [hbs]; exact hlt)
        refine ⟨ρ, withBlk w p.blk (.stringIter bs (pos + (letterA s pos).2)), .tuple #[.bool true, .int .i64 pos, .int .i32 (letterA s pos).1], ?_, .tup _ _ (.cons _ _ _ _ (.bool _) (.cons _ _ _ _ (.int _ _) (.cons _ _ _ _ (.int _ _) .nil))), S.putMap hg hp (.iter _ _ _ _ hbs hb0), Ext.refl _, fun _ _ => rfl, rfl⟩
        rw [hle]
        simp only [Instr.next, hb0, Nat.add_zero, Sem.run_bind, run_getObj_iter m1, Result.andThen_ok, if_pos hsz, run_setObj_iter m1, Sem.run_pure]
        rfl
      · rename_i hlt
        obtain ⟨rfl, rfl⟩ := Prod.mk.inj (Option.some.inj e)
        have hsz : ¬ pos < bs.size := fun hh => hlt (Nat.ble_eq_true_of_le (by rw [← hbs]; exact Nat.succ_le_of_lt (by simpa using hh)))
        refine ⟨ρ, w, .tuple #[.bool false], ?_, .tup _ _ (.cons _ _ _ _ (.bool _) .nil), S, Ext.refl _, fun _ _ => rfl, rfl⟩
        simp only [Instr.next, hb0, Nat.add_zero, Sem.run_bind, run_getObj_iter m1, Result.andThen_ok, if_neg hsz, Sem.run_pure]
    · simp at e
  · simp at e

theorem sameBits_key {d : TypeDesc} {k : AV} {k' : Value} (hk : keyOk d k = true) (hr : VR ρ k k') (n : Nat) : Instr.sameBits n k' k' = true := by
  unfold keyOk at hk
  split at hk
  · cases hr; cases n <;> simp [Instr.sameBits]
  · cases hr; cases n <;> simp [Instr.sameBits, bytes_beq]
  · cases hr; cases n <;> simp [Instr.sameBits]
  · simp at hk

theorem plainE_setNth {es : List (AV × AV × Nat)} {i : Nat} {v : AV} (h : plainE es = true) : plainE (setNth es i v) = true := by
  cases es with
  | nil => exact h
  | cons e es =>
    obtain ⟨k, v0, n⟩ := e
    cases i with
    | zero => cases k <;> first | rfl | exact h
    | succ i => cases k <;> first | rfl | exact h

theorem plainE_append {d : TypeDesc} {k v : AV} {n : Nat} {es : List (AV × AV × Nat)} (hk : keyOk d k = true) (h : plainE es = true) : plainE (es ++ [(k, v, n)]) = true := by
  cases es with
  | nil => cases k <;> first | rfl | (cases d <;> cases hk)
  | cons e es =>
    obtain ⟨k', v0, m⟩ := e
    cases k' <;> first | rfl | exact h

theorem mapUpdateA_ok (S : Sim B w0 ρ h w) {t : TypeId} {m k v : AV} {m' k' v' : Value} {h' : Heap} (e : mapUpdateA P h t m k v = some h') (hm : VR ρ m m') (hk : VR ρ k k') (hv : VR ρ v v') :
    DoesU P B w0 ρ h w (Instr.mapUpdate t m' k' v') h' := by
  unfold mapUpdateA at e
  split at e
  · rename_i kt et hu
    split at e
    · rename_i d hd
      rw [cond_eq_ite] at e
      split at e
      · rename_i hkk
        have hck : (Instr.checkKey false 10000 kt k').run P w = .ok () w := checkKey_run hd hkk hk false 9999
        split at e
        · cases hm
          rename_i r p hp
          split at e
          · rename_i es c hg
            split at e
            · rename_i i v0 hfi
              have hpl := findA_plain hfi
              obtain ⟨es', m1, m2, m3⟩ := S.mapAt hg hp hpl
              obtain rfl := Option.some.inj e
              rcases findA_ok hk m2 hfi with ⟨h1, _⟩ | ⟨j, v1, v2, en, en', h1, h2, h3, h4, h5, h6, h7, h8⟩
              · cases h1
              · obtain ⟨rfl, rfl⟩ := Prod.mk.inj (Option.some.inj h1)
                have hfk := findKey_run (P := P) (w := w) hd h2
                have h6' : es'[i]? = some en' := by simpa using h6
                have hst : (Instr.keyThatStays (((es'[i]?).map (·.key)).getD k') k').run P w = .ok k' w := by
                  rw [h6']
                  simp only [Option.map_some, Option.getD_some, Instr.keyThatStays, h8]
                  rw [if_pos (sameBits_key hkk hk 10000)]
                  rfl
                refine ⟨_, ?_, S.putMap (es2 := setNth es i v) (c2 := c) (ob2 := .map (es'.modify i fun e => { e with key := k', val := v' }) c) hg hp (.map _ _ _ (plainE_setNth hpl) ?_), rfl⟩
                · simp only [Instr.mapUpdate, Sem.run_bind, run_underlying hu, Result.andThen_ok, run_getObj_map' m1, hck, hfk, hst]
                  exact run_setObj_map' m1 _
                · rw [Array.toList_modify]
                  refine ER.setNth m2 i (fun e he => ?_) hv
                  have h5' : es[i]? = some en := by simpa using h5
                  rw [h5'] at he
                  obtain rfl := Option.some.inj he
                  rw [h7]; exact hk
            · rename_i hfi
              have hpl := findA_plain hfi
              obtain ⟨es', m1, m2, m3⟩ := S.mapAt hg hp hpl
              obtain rfl := Option.some.inj e
              rcases findA_ok hk m2 hfi with ⟨_, h2⟩ | ⟨_, _, _, _, _, h1, _⟩
              · have hfk := findKey_run (P := P) (w := w) hd h2
                refine ⟨_, ?_, S.putMap (es2 := es ++ [(k, v, c)]) (c2 := c + 1) (ob2 := .map (es'.push { key := k', val := v', born := c }) (c + 1)) hg hp (.map _ _ _ (plainE_append hkk hpl) ?_), rfl⟩
                · simp only [Instr.mapUpdate, Sem.run_bind, run_underlying hu, Result.andThen_ok, run_getObj_map' m1, hck, hfk]
                  exact run_setObj_map' m1 _
                · rw [Array.toList_push]
                  exact m2.append (.cons _ _ _ _ _ _ _ hk hv .nil)
              · cases h1
            · simp at e
          · simp at e
        · simp at e
      · simp at e
    · simp at e
  · simp at e

/-! ### Conversions -/
theorem bytesA_ok : ∀ {l : List AV} {s : List UInt8} {l' : List Value}, bytesA l = some s → VRL ρ l l' → ∃ ns : List Int, l' = ns.map (Value.int .u8) ∧ s = ns.map fun n => UInt8.ofNat n.toNat
  | [], s, _, e, .nil => by
    simp only [bytesA] at e
    obtain rfl := Option.some.inj e
    exact ⟨[], rfl, rfl⟩
  | v :: l, s, _, e, .cons _ v' _ l' hv hl => by
    unfold bytesA at e
    split at e
    · rename_i heq; simp at heq
    · rename_i n r heq
      obtain ⟨rfl, rfl⟩ := List.cons.inj heq
      cases hv
      cases hb : bytesA l with
      | none => simp [hb] at e
      | some s0 =>
        simp only [hb, Option.map_some] at e
        obtain rfl := Option.some.inj e
        obtain ⟨ns, rfl, rfl⟩ := bytesA_ok hb hl
        exact ⟨n :: ns, rfl, rfl⟩
    · simp at e

theorem push_fold : ∀ (ns : List Int) (b : ByteArray), (ns.foldl (fun r n => r.push (UInt8.ofNat n.toNat)) b).data.toList = b.data.toList ++ ns.map fun n => UInt8.ofNat n.toNat
  | [], b => by simp
  | n :: ns, b => by
    simp only [List.foldl_cons, List.map_cons]
    rw [push_fold ns]
    simp [ByteArray.push]

theorem freeze_new (w : World) (C : Array Value) (e : TypeId) (n : Nat) : (w.alloc (.cells C e)).freeze ⟨w.heap.size, n, none⟩ 1 = w.alloc (.cells C e (n, n + 1)) := by
  unfold World.freeze World.alloc
  simp only [Nat.one_ne_zero, if_false]
  congr 1
  apply Array.ext_getElem?
  intro k
  simp only [Array.getElem?_modify, Array.getElem?_push]
  by_cases hk : k = w.heap.size
  · subst hk; simp
  · have : ¬ (w.heap.size = k) := fun e => hk e.symm
    simp [hk, this]

theorem freeze_blk (w : World) (k n : Nat) (cc : Array Value) (T : TypeId) (hw : w.heap[k]? = some (.cells cc T (0, 0))) : w.freeze ⟨k, n, none⟩ 1 = withBlk w k (.cells cc T (n, n + 1)) := by
  unfold World.freeze withBlk
  simp only [Nat.one_ne_zero, if_false]
  congr 1
  apply Array.ext_getElem?
  intro j
  simp only [Array.getElem?_modify, Array.getElem?_setIfInBounds]
  by_cases hk : k = j
  · subst hk
    rw [if_pos rfl, if_pos rfl, hw, if_pos (lt_of_heap hw)]
    rfl
  · rw [if_neg hk, if_neg hk]

/-- A block of which bytes have been made a value of its own type: nothing of its cells turns. -/
theorem Sim.freeze (S : Sim B w0 ρ h w) {b : Nat} {cs : List AV} {anc : List Nat} {p : Pos} {cc : Array Value} {T : TypeId} (fz' : Nat × Nat) (hg : h.get b = some (.cells cs (.rw true) anc)) (hp : ρ b = some p)
    (f1 : w.heap[p.blk]? = some (.cells cc T (0, 0))) (hB : B ≤ p.blk) (hfz : ∀ i, i < cc.size → ¬ (fz'.1 ≤ i ∧ i < fz'.2)) : Sim B w0 ρ (h.put b (some (.cells cs (.rw false) anc))) (withBlk w p.blk (.cells cc T fz')) := by
  obtain ⟨p', T', cc', fz, k1, k2, k3, k4, k5, k6⟩ := S.blk b cs _ anc hg
  rw [hp] at k1
  obtain rfl := Option.some.inj k1
  rw [f1] at k2
  injection k2 with k2
  injection k2 with q1 q2 q3
  subst q1 q2 q3
  have hlt := lt_of_heap f1
  have hget : ∀ c ob, (h.put b (some (.cells cs (.rw false) anc))).get c = some ob → (c = b ∧ ob = .cells cs (.rw false) anc) ∨ (c ≠ b ∧ h.get c = some ob) := by
    intro c ob hc
    rw [Heap.get_put] at hc
    split at hc
    · rename_i ec; exact .inl ⟨ec.symm, (Option.some.inj hc).symm⟩
    · rename_i ec; exact .inr ⟨fun x => ec x.symm, hc⟩
  refine { below := below_withBlk S.below hB hlt _, bsize := S.bsize, dom := S.dom, blk := ?_, map := ?_, sep := ?_, msep := ?_, ancl := ?_ }
  · intro c cs' md' anc' hc
    rcases hget c _ hc with ⟨rfl, ec⟩ | ⟨hne, hc⟩
    · injection ec with e1 e2 e3
      subst e1 e2 e3
      refine ⟨p, T, cc, fz', hp, by rw [heap_withBlk _ _ _ _ hlt, if_pos rfl], k3, k4, k5, fun pl' hpl' => ?_⟩
      injection hpl' with hh
      subst hh
      exact ⟨hB, hfz, fun h => by cases h⟩
    · obtain ⟨q, T', cc', fz, g1, g2, g3, g4, g5, g6⟩ := S.blk c cs' md' anc' hc
      by_cases hq : p.blk = q.blk
      · rw [← hq, f1] at g2
        injection g2 with g2
        injection g2 with r1 r2 r3
        subst r1 r2 r3
        refine ⟨q, T, cc, fz', g1, by rw [heap_withBlk _ _ _ _ hlt, if_pos hq], g3, g4, g5, fun pl hpl => ?_⟩
        obtain ⟨_, cs2, md2, anc2, o1, o2, _⟩ := S.sep b cs true anc p c _ q hg hp hc g1 (fun x => hne x.symm) hq
        injection o1 with _ o1 _
        exact absurd (o1 ▸ hpl) (o2 pl)
      · exact ⟨q, T', cc', fz, g1, by rw [heap_withBlk _ _ _ _ hlt, if_neg hq]; exact g2, g3, g4, g5, g6⟩
  · intro c es k hc
    rcases hget c _ hc with ⟨rfl, ec⟩ | ⟨hne, hc⟩
    · cases ec
    · obtain ⟨q, es', g1, g2, g3⟩ := S.map c es k hc
      have hq : p.blk ≠ q.blk := fun e => by
        rw [← e, f1] at g2
        obtain rfl := Option.some.inj g2
        exact g3.1.no_cells
      exact ⟨q, es', g1, by rw [heap_withBlk _ _ _ _ hlt, if_neg hq]; exact g2, g3⟩
  · intro c cs' pl' anc' q c2 o2 q2 h1 h2 h3 h4 h5 h6
    have key : ∀ (c : Nat) (ob : AObj), (h.put b (some (.cells cs (.rw false) anc))).get c = some ob → ∃ ob', h.get c = some ob' ∧ (c = b ∧ ob = .cells cs (.rw false) anc ∧ ob' = .cells cs (.rw true) anc ∨ c ≠ b ∧ ob' = ob) := fun c ob hc => by
      rcases hget c _ hc with ⟨rfl, ec⟩ | ⟨hne, hc⟩
      · exact ⟨_, hg, .inl ⟨rfl, ec, rfl⟩⟩
      · exact ⟨_, hc, .inr ⟨hne, rfl⟩⟩
    obtain ⟨oc, m1, m2⟩ := key c _ h1
    obtain ⟨oc2, m3, m4⟩ := key c2 _ h3
    have m1' : ∃ pl, h.get c = some (.cells cs' (.rw pl) anc') := by
      rcases m2 with ⟨rfl, e1, e2⟩ | ⟨_, e2⟩
      · injection e1 with e3 e4 e5
        subst e3 e5
        exact ⟨true, hg⟩
      · exact ⟨pl', by rw [m1, e2]⟩
    obtain ⟨pl, m1'⟩ := m1'
    obtain ⟨r1, cs2, md2, anc2, r2, r3, r4⟩ := S.sep c cs' pl anc' q c2 oc2 q2 m1' h2 m3 h4 h5 h6
    refine ⟨r1, ?_⟩
    rcases m4 with ⟨rfl, e1, e2⟩ | ⟨_, e2⟩
    · rw [e2] at r2
      injection r2 with _ r2 _
      exact absurd r2.symm (r3 true)
    · exact ⟨cs2, md2, anc2, by rw [← e2, r2], r3, r4⟩
  · intro c es k q c2 o2 q2 h1 h2 h3 h4 h5
    rcases hget c _ h1 with ⟨rfl, ec⟩ | ⟨hne, h1'⟩
    · cases ec
    · rcases hget c2 _ h3 with ⟨rfl, ec2⟩ | ⟨hne2, h3'⟩
      · exact S.msep c es k q _ _ q2 h1' h2 hg h4 h5
      · exact S.msep c es k q c2 o2 q2 h1' h2 h3' h4 h5
  · intro c cs' md a hc x hx
    rcases hget c _ hc with ⟨rfl, ec⟩ | ⟨hne, hc⟩
    · injection ec with e1 e2 e3
      subst e3
      exact S.ancl _ _ _ _ hg x hx
    · exact S.ancl c cs' md a hc x hx

theorem convA_ok (S : Sim B w0 ρ h w) {fresh : Nat} (hf : ρ fresh = none) (hl : fresh < h.next) {src dst : TypeId} {x v : AV} {x' : Value} {h' : Heap} (e : convA P h fresh src dst x = some (v, h')) (hx : VR ρ x x') :
    Does P B w0 ρ h w fresh (convert src dst x') v h' := by
  unfold convA at e
  split at e
  · rename_i ds dd hs hd
    split at e
    · cases hx
      split at e
      · obtain ⟨rfl, rfl⟩ := Prod.mk.inj (Option.some.inj e)
        refine Does.of_pure S ⟨_, ?_, .int _ _⟩
        simp only [convert, Sem.run_bind, run_underlying hs, run_underlying hd, Result.andThen_ok]
        rfl
      · obtain ⟨rfl, rfl⟩ := Prod.mk.inj (Option.some.inj e)
        refine Does.of_pure S ⟨.string _, ?_, .str _ _ rfl⟩
        simp only [convert, Sem.run_bind, run_underlying hs, run_underlying hd, Result.andThen_ok]
        rfl
      · simp at e
    · rename_i s
      cases hx
      rename_i bs hbs
      split at e
      · obtain ⟨rfl, rfl⟩ := Prod.mk.inj (Option.some.inj e)
        refine Does.of_pure S ⟨.string bs, ?_, .str _ _ hbs⟩
        simp only [convert, Sem.run_bind, run_underlying hs, run_underlying hd, Result.andThen_ok]
        rfl
      · rename_i el
        split at e
        · rename_i hel
          rw [cond_eq_ite] at e
          split at e
          · rename_i hle
            have hle := Nat.le_of_ble_eq_true hle
            obtain ⟨rfl, rfl⟩ := Prod.mk.inj (Option.some.inj e)
            subst hbs
            have hsz : bs.data.toList.length = bs.size := Array.length_toList
            generalize hcap : (Question.appendCap bs.size 0 el).cut (w.tape w.drawn (.appendCap bs.size 0 el)) = cap
            have hge : bs.size ≤ cap := by rw [← hcap]; simp [Question.cut]
            have hC : ((bs.data.map fun b => Value.int .u8 b.toNat) ++ Array.replicate (cap - bs.size) (Value.int .u8 0)).size = cap := by
              simp only [Array.size_append, Array.size_map, Array.size_replicate]
              have : bs.data.size = bs.size := rfl
              omega
            have hS := S.drew.new hf hl (cs := bs.data.toList.map fun b => AV.int .u8 b.toNat) (cc := (bs.data.map fun b => Value.int .u8 b.toNat) ++ Array.replicate (cap - bs.size) (.int .u8 0)) el (cap, cap + 1) false
              (by rw [hC, List.length_map, hsz]; exact hge) (by
                have := str_cells (ρ := ρ) bs
                rw [Array.toList_append, List.length_map, hsz]
                rw [List.take_left' (by simp)]
                exact this) (fun i hi => by rw [hC] at hi; omega) (fun h => by cases h)
            rw [hC] at hS
            refine ⟨_, _, .slice (some ⟨w.heap.size, 0, none⟩) bs.size cap, ?_, .slice fresh 0 _ _ false 1 ⟨w.heap.size, 0, cap⟩ cap _ (by simp [Rho.put]) (by rw [hsz]; exact hge) (by simp) (Nat.le_refl _) (.inr ⟨rfl, by simp⟩), hS, Rho.ext_put _ hf, put_other _, rfl⟩
            simp only [convert, Sem.run_bind, run_underlying hs, run_underlying hd, Result.andThen_ok, run_underlying hel, Conv.stringToBytes, run_choose, Question.forced, Bool.false_eq_true, if_false, World.drew_eq, hcap, newRow, run_newObj, Sem.run_pure, World.alloc_eq, markStringish, run_shape]
            have hshape : (w.drew.alloc (.cells ((bs.data.map fun b => Value.int .u8 b.toNat) ++ Array.replicate (cap - bs.size) (.int .u8 0)) el)).shape? w.drew.heap.size = some (el, cap) := by
              simp only [World.shape?, World.alloc, Array.getElem?_push, if_true, hC]
            rw [hshape]
            simp only [run_freeze, Result.andThen_ok, Sem.run_pure]
            rw [freeze_new]
            congr 1
          · simp at e
        · simp at e
      · simp at e
    · cases hx
      split at e
      · rename_i el
        split at e
        · rename_i hel
          obtain ⟨rfl, rfl⟩ := Prod.mk.inj (Option.some.inj e)
          refine Does.of_pure S ⟨.string .empty, ?_, .str _ _ rfl⟩
          simp only [convert, Sem.run_bind, run_underlying hs, run_underlying hd, Result.andThen_ok, run_underlying hel, Conv.bytesToString, Sem.run_pure]
        · simp at e
      · simp at e
    · rename_i b o len cap ex sz
      cases hx
      rename_i p c' ad hp g1 g3 g2 g4
      split at e
      · rename_i el
        split at e
        · rename_i hel
          rw [cond_eq_ite] at e
          split at e
          · rename_i hszb
            obtain rfl : sz = 1 := Nat.eq_of_beq_eq_true hszb
            split at e
            · rename_i l hcut
              cases hb : bytesA l with
              | none => simp [hb] at e
              | some s =>
                simp only [hb, Option.map_some] at e
                obtain ⟨rfl, rfl⟩ := Prod.mk.inj (Option.some.inj e)
                have hload : ∃ l', (Go.loadCells ad len).run P w = .ok l' w ∧ VRL ρ l l'.toList := by
                  rcases g4 with g4 | ⟨rfl, g4⟩
                  · obtain rfl : len = 0 := by omega
                    refine ⟨#[], by simp [Go.loadCells, loadCellsFrom], ?_⟩
                    obtain ⟨_, hl0, _⟩ := cut_spec hcut
                    rw [hl0]; simpa using VRL.nil
                  · exact S.loadRd (P := P) hp hcut
                obtain ⟨l', q1, q2⟩ := hload
                obtain ⟨ns, q3, q4⟩ := bytesA_ok hb q2
                refine Does.of_pure S ⟨.string (ns.foldl (fun r n => r.push (UInt8.ofNat n.toNat)) ByteArray.empty), ?_, .str _ _ ?_⟩
                · simp only [convert, Sem.run_bind, run_underlying hs, run_underlying hd, Result.andThen_ok, run_underlying hel]
                  exact run_bytesToString w ad len c' ns (by rw [q1, ← q3])
                · rw [push_fold, q4]; rfl
            · simp at e
          · simp at e
        · simp at e
      · rename_i el0 el
        split at e
        · rename_i hel
          split at e
          · rename_i hcond
            simp only [Bool.and_eq_true] at hcond
            obtain rfl : src = dst := Nat.eq_of_beq_eq_true hcond.1
            obtain rfl : el0 = el := by
              have := hs.symm.trans hd
              injection this with this
              injection this
            have hlen : 0 < len := Nat.le_of_ble_eq_true hcond.2
            split at e
            · rename_i cs anc hg
              obtain ⟨rfl, rfl⟩ := Prod.mk.inj (Option.some.inj e)
              rcases g4 with g4 | ⟨rfl, g4⟩
              · exfalso; omega
              obtain ⟨T, cc, fz, f1, f2, f3, f4, f5⟩ := S.cellsAt hg hp
              obtain ⟨hB, hfz, hpl⟩ := f5 true rfl
              obtain rfl := hpl rfl
              refine ⟨ρ, withBlk w p.blk (.cells cc T (cc.size, cc.size + 1)), .slice (some ⟨p.blk, p.base + o, none⟩) len c', ?_, .slice b o len cap ex sz p c' _ hp g1 g2 g3 (.inr ⟨rfl, g4⟩), S.freeze (cc.size, cc.size + 1) hg hp f1 hB (fun i hi => by simp only; omega), Ext.refl _, fun _ _ => rfl, rfl⟩
              simp only [convert, Sem.run_bind, run_underlying hs, run_underlying hd, Result.andThen_ok, run_underlying hel, beq_self_eq_true, markStringish, run_shape]
              have hshape : w.shape? p.blk = some (T, cc.size) := by
                simp only [World.shape?, f1]
              rw [hshape]
              simp only [run_freeze, Result.andThen_ok, Sem.run_pure]
              rw [freeze_blk w p.blk cc.size cc T f1]
            · simp at e
          · simp at e
        · simp at e
      · simp at e
    · simp at e
  · simp at e

theorem arrayAtA_ok {arr : TypeId} {x v : AV} {x' : Value} (e : arrayAtA P arr x = some v) (hx : VR ρ x x') : ∃ v', (Instr.arrayAt arr x').run P w = .ok v' w ∧ VR ρ v v' := by
  unfold arrayAtA at e
  split at e
  · rename_i n el hu
    split at e
    · cases hx
      rename_i p c' ad hp g1 g3 g2 g4
      rw [cond_eq_ite] at e
      split at e
      · rename_i b o len cap ex sz hc
        simp only [Bool.and_eq_true] at hc
        have h1 : n ≤ len := Nat.le_of_ble_eq_true hc.1
        have h2 : 0 < n := Nat.le_of_ble_eq_true hc.2
        obtain rfl := Option.some.inj e
        rcases g4 with g4 | ⟨rfl, g4⟩
        · exfalso; omega
        refine ⟨_, ?_, .ptr b o p hp⟩
        simp only [Instr.arrayAt, Sem.run_bind, run_underlying hu, Result.andThen_ok]
        rw [if_neg (by omega)]
        rfl
      · simp at e
    · simp at e
  · simp at e

theorem assertA_ok {xt a : TypeId} {x v : AV} {x' : Value} {ok : Bool} (e : assertA P x xt a ok = some v) (hx : VR ρ x x') : ∃ v', (Instr.typeAssert x' xt a ok).run P w = .ok v' w ∧ VR ρ v v' := by
  unfold assertA at e
  split at e
  · simp at e
  · rename_i d hni hu
    have hmatch : ∀ (α : Type) (f : Array (String × TypeId) → α) (g : α), (match d with | .interface want => f want | _ => g) = g := fun α f g => by
      cases d <;> first | rfl | exact (hni _ rfl).elim
    split at e
    · cases hx
      rw [cond_eq_ite] at e
      split at e
      · rename_i hok
        cases hz : zeroA P a with
        | none => simp [hz] at e
        | some z =>
          simp only [hz, Option.map_some] at e
          obtain rfl := Option.some.inj e
          obtain ⟨zv, z1, z2⟩ := run_zeroValue' hz w ρ
          refine ⟨.tuple #[zv, .bool false], ?_, .tup _ _ (.cons _ _ _ _ z2 (.cons _ _ _ _ (.bool _) .nil))⟩
          subst hok
          unfold Instr.typeAssert
          simp only [Sem.run_bind, run_underlying hu, Result.andThen_ok]
          cases d <;> first
            | (exact (hni _ rfl).elim)
            | (simp [z1])
      · simp at e
    · rename_i t v0
      cases hx
      rename_i v0' hv0
      split at e
      · rename_i hta
        subst hta
        obtain rfl := Option.some.inj e
        refine ⟨if ok then .tuple #[v0', .bool true] else v0', ?_, ?_⟩
        · unfold Instr.typeAssert
          simp only [Sem.run_bind, run_underlying hu, Result.andThen_ok]
          cases d <;> first
            | (exact (hni _ rfl).elim)
            | (simp)
        · cases ok
          · exact hv0
          · exact .tup _ _ (.cons _ _ _ _ hv0 (.cons _ _ _ _ (.bool _) .nil))
      · rename_i hta
        rw [cond_eq_ite] at e
        split at e
        · rename_i hok
          cases hz : zeroA P a with
          | none => simp [hz] at e
          | some z =>
            simp only [hz, Option.map_some] at e
            obtain rfl := Option.some.inj e
            obtain ⟨zv, z1, z2⟩ := run_zeroValue' hz w ρ
            refine ⟨.tuple #[zv, .bool false], ?_, .tup _ _ (.cons _ _ _ _ z2 (.cons _ _ _ _ (.bool _) .nil))⟩
            subst hok
            unfold Instr.typeAssert
            simp only [Sem.run_bind, run_underlying hu, Result.andThen_ok]
            cases d <;> first
              | (exact (hni _ rfl).elim)
              | (simp [z1, hta])
        · simp at e
    · simp at e
  · simp at e

end Go.Proofs.YtahdafekballcaaGreat.AM
