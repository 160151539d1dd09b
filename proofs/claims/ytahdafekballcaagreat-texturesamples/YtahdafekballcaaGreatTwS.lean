/-
  The colours of a texture: what is told is so: the example, a byte's share, the quotients. Conditions: none.
-/
import Derived.Test.YtahdafekballcaaGreatZb0
import Derived.Test.YtahdafekballcaaGreatTx0
namespace Go.Proofs.YtahdafekballcaaGreat.AM
open Go Go.Proofs Go.RowKit
set_option linter.unusedVariables false

/-- The table of sums, told, too. -/
noncomputable def XE2 : Told := joinT XE (toldV 83 (answer Tryz.prog 83))
noncomputable def XS2 : Told := joinT XS (toldV 83 (answer Tryz.prog 83))

theorem table_closed : closedA (answer Tryz.prog 83) = true := by kernel_rfl

theorem table_ok : ToldOK Tryz.prog (toldV 83 (answer Tryz.prog 83)) := by
  obtain ⟨h0, r⟩ := answer_runs table_closed
  exact toldV_ok mixed names table_closed r ⟨_, _, Tryz.func83, rfl⟩

theorem XS2_ok : ToldOK Tryz.prog XS2 := joinT_ok XS_ok table_ok
theorem XS2_hu : ToldHU XS2 := joinT_hu XS_hu (toldV_hu _ _)
theorem XE2_finer : Finer XE2 XS2 := joinT_finer XE_finer (Finer.refl _)

theorem awake_run : isTrue (callC Tryz.prog XE2 3000 6 [] ⟨1000, .nil⟩) = true := by kernel_rfl

theorem awake_true : Tell.True Tryz.prog ⟨6, [], .bool true⟩ := by
  cases hc : callC Tryz.prog XE2 3000 6 [] ⟨1000, .nil⟩ with
  | none => have e := awake_run; rw [hc] at e; cases e
  | some r =>
    obtain ⟨v, h'⟩ := r
    have e := awake_run
    rw [hc] at e
    match v, e, hc with
    | .ret (.bool true), _, hc => exact ⟨rfl, rfl, ⟨_, _, Tryz.func6, rfl⟩, XS2, 1000, h', XS2_ok, XS2_hu, (callC_ok 3000 6 [] _ _ _ hc).finer XE2_finer⟩

noncomputable def divT (b : Nat) : Bool := comesTo (.int .i64 (.ofNat (share b))) (callC Tryz.prog noX 3000 12 [.int .i64 (.ofNat (b * 4294967296)), .int .i64 (.ofNat 1095216660480)] ⟨1000, .nil⟩)
noncomputable def partT (b : Nat) : Bool := comesTo (.int .i64 (.ofNat (share b))) (callC Tryz.prog noX 3000 11 [.int .u8 (.ofNat b)] ⟨1000, .nil⟩)

theorem div_all : ((List.range 256).all divT) = true := by kernel_rfl
theorem part_all : ((List.range 256).all partT) = true := by kernel_rfl

noncomputable def rdivT (b : Nat) : Bool := comesTo (.int .i64 (.ofNat (share b))) (callC Tryz.prog noX 3000 15 [.int .i64 (.ofNat (b * 4294967296)), .int .i64 (.ofNat 1095216660480)] ⟨1000, .nil⟩)
theorem rdiv_0 : ((List.range 32).all fun b => rdivT (b + 0)) = true := by kernel_rfl
theorem rdiv_1 : ((List.range 32).all fun b => rdivT (b + 32)) = true := by kernel_rfl
theorem rdiv_2 : ((List.range 32).all fun b => rdivT (b + 64)) = true := by kernel_rfl
theorem rdiv_3 : ((List.range 32).all fun b => rdivT (b + 96)) = true := by kernel_rfl
theorem rdiv_4 : ((List.range 32).all fun b => rdivT (b + 128)) = true := by kernel_rfl
theorem rdiv_5 : ((List.range 32).all fun b => rdivT (b + 160)) = true := by kernel_rfl
theorem rdiv_6 : ((List.range 32).all fun b => rdivT (b + 192)) = true := by kernel_rfl
theorem rdiv_7 : ((List.range 32).all fun b => rdivT (b + 224)) = true := by kernel_rfl
theorem rdiv_all (b : Nat) (hb : b < 256) : rdivT b = true := by
  have h : b < 32 ∨ (32 ≤ b ∧ b < 64) ∨ (64 ≤ b ∧ b < 96) ∨ (96 ≤ b ∧ b < 128) ∨ (128 ≤ b ∧ b < 160) ∨ (160 ≤ b ∧ b < 192) ∨ (192 ≤ b ∧ b < 224) ∨ (224 ≤ b ∧ b < 256) := by omega
  rcases h with h | h | h | h | h | h | h | h
  · have := List.all_eq_true.1 rdiv_0 (b - 0) (List.mem_range.2 (by omega))
    rw [show b - 0 + 0 = b by omega] at this
    exact this
  · have := List.all_eq_true.1 rdiv_1 (b - 32) (List.mem_range.2 (by omega))
    rw [show b - 32 + 32 = b by omega] at this
    exact this
  · have := List.all_eq_true.1 rdiv_2 (b - 64) (List.mem_range.2 (by omega))
    rw [show b - 64 + 64 = b by omega] at this
    exact this
  · have := List.all_eq_true.1 rdiv_3 (b - 96) (List.mem_range.2 (by omega))
    rw [show b - 96 + 96 = b by omega] at this
    exact this
  · have := List.all_eq_true.1 rdiv_4 (b - 128) (List.mem_range.2 (by omega))
    rw [show b - 128 + 128 = b by omega] at this
    exact this
  · have := List.all_eq_true.1 rdiv_5 (b - 160) (List.mem_range.2 (by omega))
    rw [show b - 160 + 160 = b by omega] at this
    exact this
  · have := List.all_eq_true.1 rdiv_6 (b - 192) (List.mem_range.2 (by omega))
    rw [show b - 192 + 192 = b by omega] at this
    exact this
  · have := List.all_eq_true.1 rdiv_7 (b - 224) (List.mem_range.2 (by omega))
    rw [show b - 224 + 224 = b by omega] at this
    exact this

theorem XT_ok : ToldOK Tryz.prog XT := by
  refine toldQ_ok mixed names ?_
  intro f q hq args v hv
  simp only [List.mem_cons, List.mem_nil_iff, or_false, Prod.mk.injEq] at hq
  rcases hq with ⟨rfl, rfl⟩ | ⟨rfl, rfl⟩ | ⟨rfl, rfl⟩ | ⟨rfl, rfl⟩
  · unfold qAwake at hv
    split at hv
    · obtain rfl := Option.some.inj hv
      exact awake_true
    · cases hv
  · unfold qDiv at hv
    split at hv
    · rename_i x y
      split at hv
      · rename_i hc
        obtain ⟨rfl, h1, h2, h3⟩ := hc
        obtain rfl := Option.some.inj hv
        obtain ⟨b, hb⟩ : ∃ b : Nat, (b : Int) = x / 4294967296 := ⟨(x / 4294967296).toNat, by omega⟩
        have hx : x = Int.ofNat (b * 4294967296) := by
          show x = ((b * 4294967296 : Nat) : Int)
          omega
        have hb2 : (x / 4294967296).toNat = b := by omega
        have := List.all_eq_true.1 div_all b (List.mem_range.2 (by omega))
        rw [hb2, hx]
        exact Tell.ofRun told_none_ok told_none_hu ⟨_, _, Tryz.func12, rfl⟩ 3000 (by
          show (freeL _ && freeA _ && divT b) = true
          rw [this]
          rfl)
      · cases hv
    · cases hv
  · unfold qPart at hv
    split at hv
    · rename_i x
      split at hv
      · rename_i hc
        obtain rfl := Option.some.inj hv
        obtain ⟨b, hb⟩ : ∃ b : Nat, (b : Int) = x := ⟨x.toNat, by omega⟩
        subst hb
        have := List.all_eq_true.1 part_all b (List.mem_range.2 (by omega))
        exact Tell.ofRun told_none_ok told_none_hu ⟨_, _, Tryz.func11, rfl⟩ 3000 (by
          show (freeL _ && freeA _ && partT b) = true
          rw [this]
          rfl)
      · cases hv
    · cases hv
  · unfold qDiv at hv
    split at hv
    · rename_i x y
      split at hv
      · rename_i hc
        obtain ⟨rfl, h1, h2, h3⟩ := hc
        obtain rfl := Option.some.inj hv
        obtain ⟨b, hb⟩ : ∃ b : Nat, (b : Int) = x / 4294967296 := ⟨(x / 4294967296).toNat, by omega⟩
        have hx : x = Int.ofNat (b * 4294967296) := by
          show x = ((b * 4294967296 : Nat) : Int)
          omega
        have hb2 : (x / 4294967296).toNat = b := by omega
        have := rdiv_all b (by omega)
        rw [hb2, hx]
        exact Tell.ofRun told_none_ok told_none_hu ⟨_, _, Tryz.func15, rfl⟩ 3000 (by
          show (freeL _ && freeA _ && rdivT b) = true
          rw [this]
          rfl)
      · cases hv
    · cases hv

theorem XT_hu : ToldHU XT := toldQ_hu _

end Go.Proofs.YtahdafekballcaaGreat.AM
