/-
  The colours of a texture: what is told is so: the example, a byte's share, the quotients. Conditions: none.
-/
import Derived.Test.YtahdafekballcaaZb0
import Derived.Test.YtahdafekballcaaTx0
namespace Go.Proofs.Ytahdafekballcaa.AM
open Go Go.Proofs Go.RowKit
set_option linter.unusedVariables false

/-- The table of sums, told, too. -/
noncomputable def XE2 : Told := joinT XE (toldV 72 (answer Try.prog 72))
noncomputable def XS2 : Told := joinT XS (toldV 72 (answer Try.prog 72))

theorem table_closed : closedA (answer Try.prog 72) = true := by kernel_rfl

theorem table_ok : ToldOK Try.prog (toldV 72 (answer Try.prog 72)) := by
  obtain ⟨h0, r⟩ := answer_runs table_closed
  exact toldV_ok mixed names table_closed r ⟨_, _, Try.func72, rfl⟩

theorem XS2_ok : ToldOK Try.prog XS2 := joinT_ok XS_ok table_ok
theorem XS2_hu : ToldHU XS2 := joinT_hu XS_hu (toldV_hu _ _)
theorem XE2_finer : Finer XE2 XS2 := joinT_finer XE_finer (Finer.refl _)

theorem awake_run : isTrue (callC Try.prog XE2 3000 4 [] ⟨1000, .nil⟩) = true := by kernel_rfl

theorem awake_true : Tell.True Try.prog ⟨4, [], .bool true⟩ := by
  cases hc : callC Try.prog XE2 3000 4 [] ⟨1000, .nil⟩ with
  | none => have e := awake_run; rw [hc] at e; cases e
  | some r =>
    obtain ⟨v, h'⟩ := r
    have e := awake_run
    rw [hc] at e
    match v, e, hc with
    | .ret (.bool true), _, hc => exact ⟨rfl, rfl, ⟨_, _, Try.func4, rfl⟩, XS2, 1000, h', XS2_ok, XS2_hu, (callC_ok 3000 4 [] _ _ _ hc).finer XE2_finer⟩

noncomputable def divT (b : Nat) : Bool := comesTo (.int .i64 (.ofNat (share b))) (callC Try.prog noX 3000 6 [.int .i64 (.ofNat (b * 4294967296)), .int .i64 (.ofNat 1095216660480)] ⟨1000, .nil⟩)
noncomputable def partT (b : Nat) : Bool := comesTo (.int .i64 (.ofNat (share b))) (callC Try.prog noX 3000 15 [.int .u8 (.ofNat b)] ⟨1000, .nil⟩)

theorem div_all : ((List.range 256).all divT) = true := by kernel_rfl
theorem part_all : ((List.range 256).all partT) = true := by kernel_rfl

theorem XT_ok : ToldOK Try.prog XT := by
  refine toldQ_ok mixed names ?_
  intro f q hq args v hv
  simp only [List.mem_cons, List.mem_nil_iff, or_false, Prod.mk.injEq] at hq
  rcases hq with ⟨rfl, rfl⟩ | ⟨rfl, rfl⟩ | ⟨rfl, rfl⟩
  · unfold qAwake at hv
    split at hv
    · obtain rfl := Option.some.inj hv
      exact awake_true
    · cases hv
  · unfold qDiv at hv
    split at hv
    · rename_i x y
      split at hv
      · rename_i hc
        obtain ⟨rfl, h1, h2, h3⟩ := hc
        obtain rfl := Option.some.inj hv
        obtain ⟨b, hb⟩ : ∃ b : Nat, (b : Int) = x / 4294967296 := ⟨(x / 4294967296).toNat, by omega⟩
        have hx : x = Int.ofNat (b * 4294967296) := by
          show x = ((b * 4294967296 : Nat) : Int)
          omega
        have hb2 : (x / 4294967296).toNat = b := by omega
        have := List.all_eq_true.1 div_all b (List.mem_range.2 (by omega))
        rw [hb2, hx]
        exact Tell.ofRun told_none_ok told_none_hu ⟨_, _, Try.func6, rfl⟩ 3000 (by
          show (freeL _ && freeA _ && divT b) = true
          rw [this]
          rfl)
      · cases hv
    · cases hv
  · unfold qPart at hv
    split at hv
    · rename_i x
      split at hv
      · rename_i hc
        obtain rfl := Option.some.inj hv
        obtain ⟨b, hb⟩ : ∃ b : Nat, (b : Int) = x := ⟨x.toNat, by omega⟩
        subst hb
        have := List.all_eq_true.1 part_all b (List.mem_range.2 (by omega))
        exact Tell.ofRun told_none_ok told_none_hu ⟨_, _, Try.func15, rfl⟩ 3000 (by
          show (freeL _ && freeA _ && partT b) = true
          rw [this]
          rfl)
      · cases hv
    · cases hv

theorem XT_hu : ToldHU XT := toldQ_hu _

end Go.Proofs.Ytahdafekballcaa.AM
