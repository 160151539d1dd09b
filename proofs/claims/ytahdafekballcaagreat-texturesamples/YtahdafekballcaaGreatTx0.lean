/-
  The colours of a texture, part 0: what is told; what is kept. Conditions: none.
-/
import Derived.Test.YtahdafekballcaaGreatProg
import Derived.Test.YtahdafekballcaaGreatTa
import Derived.KernelRfl
namespace Go.Proofs.YtahdafekballcaaGreat.AM
open Go Go.Proofs
set_option linter.unusedVariables false
set_option linter.unusedSimpArgs false

abbrev vi (n : Int) : AV := .int .i64 n
abbrev vu (n : Int) : AV := .int .u64 n

def qAwake : List AV → Option AV
  | [] => some (.bool true)
  | _ => none
def qPart : List AV → Option AV
  | [.int .u8 b] => if 0 ≤ b ∧ b < 256 then some (vi (share b.toNat)) else none
  | _ => none
def qDiv : List AV → Option AV
  | [.int .i64 x, .int .i64 y] => if y = 1095216660480 ∧ 0 ≤ x ∧ x % 4294967296 = 0 ∧ x / 4294967296 < 256 then some (vi (share (x / 4294967296).toNat)) else none
  | _ => none

/-- The example, a byte's share, and such quotients have been run by themselves. -/
def XT : Told := toldQ [(6, qAwake), (12, qDiv), (11, qPart), (15, qDiv)]

theorem awake_runs (h : Heap) : Runs Tryz.prog XT 6 [] h (.ret (.bool true)) h := Runs.told rfl rfl
theorem ansQ_of {q : List AV → Option AV} {args : List AV} {v : AV} (h : Heap) (e : q args = some v) : ansQ q args h = some (.ret v, h) := by
  unfold ansQ
  rw [e]

theorem part_runs (h : Heap) (b : Nat) (hb : b < 256) : Runs Tryz.prog XT 11 [.int .u8 (b : Int)] h (.ret (vi (share b))) h := by
  have hg : XT 11 = some (ansQ qPart) := rfl
  have ha : qPart [.int .u8 (b : Int)] = some (vi (share b)) := by
    unfold qPart
    dsimp only
    have h1 : (0 : Int) ≤ (b : Int) ∧ (b : Int) < 256 := ⟨Int.natCast_nonneg b, by omega⟩
    rw [if_pos h1, Int.toNat_natCast]
  exact Runs.told hg (ansQ_of h ha)

theorem div_runs (h : Heap) (b : Nat) (hb : b < 256) : Runs Tryz.prog XT 12 [vi ((b : Int) * 4294967296), vi 1095216660480] h (.ret (vi (share b))) h := by
  have hg : XT 12 = some (ansQ qDiv) := rfl
  have ha : qDiv [vi ((b : Int) * 4294967296), vi 1095216660480] = some (vi (share b)) := by
    unfold qDiv
    dsimp only
    have e : (b : Int) * 4294967296 / 4294967296 = b := by omega
    have h1 : (1095216660480 : Int) = 1095216660480 ∧ 0 ≤ (b : Int) * 4294967296 ∧ (b : Int) * 4294967296 % 4294967296 = 0 ∧ (b : Int) * 4294967296 / 4294967296 < 256 := ⟨rfl, by omega, by omega, by omega⟩
    rw [if_pos h1, e, Int.toNat_natCast]
  exact Runs.told hg (ansQ_of h ha)

/-- All that was there is as it was. -/
def Kp (h h' : Heap) : Prop := h.next ≤ h'.next ∧ ∀ b, b < h.next → h'.get b = h.get b
theorem Kp.refl (h : Heap) : Kp h h := ⟨Nat.le_refl _, fun _ _ => rfl⟩
theorem Kp.trans {a b c : Heap} (x : Kp a b) (y : Kp b c) : Kp a c := ⟨Nat.le_trans x.1 y.1, fun k hk => by rw [y.2 k (Nat.lt_of_lt_of_le hk x.1), x.2 k hk]⟩
theorem Kp.bump (h : Heap) (n : Nat) : Kp h (h.bump n) := ⟨Nat.le_add_right _ _, fun _ _ => rfl⟩
theorem Kp.put {h h' : Heap} (x : Kp h h') {b : Nat} (hb : h.next ≤ b) (o : Option AObj) : Kp h (h'.put b o) := ⟨x.1, fun k hk => by rw [Heap.get_put, if_neg (by omega), x.2 k hk]⟩
theorem Kp.rd {h h' : Heap} (x : Kp h h') {b : Nat} (hb : b < h.next) : rdA h' b = rdA h b := by unfold rdA; rw [x.2 b hb]

end Go.Proofs.YtahdafekballcaaGreat.AM
