/-
  Plain laws for the colours of a texture: masks, shifts, wraps. Conditions: none.
-/
import Derived.Test.YtahdafekballcaaGreatAm36
import Derived.IntWalk
namespace Go.Proofs.YtahdafekballcaaGreat.AM
open Go Go.Proofs
set_option linter.unusedVariables false

theorem wrap_i {n : Int} (h0 : -9223372036854775808 ≤ n) (h1 : n < 9223372036854775808) : IntKind.i64.wrap n = n := by
  rw [IntKind.wrap_i64]; omega
theorem wrap_u {n : Int} (h0 : 0 ≤ n) (h1 : n < 18446744073709551616) : IntKind.u64.wrap n = n := by
  show (if (false && decide (n % 2 ^ 64 ≥ (2 ^ (64 - 1) : Int))) = true then n % 2 ^ 64 - 2 ^ 64 else n % 2 ^ 64) = n
  rw [Bool.false_and, if_neg (by decide)]
  omega

theorem ofInt_toNat64 (a : Int) : (BitVec.ofInt 64 a).toNat = (a % 18446744073709551616).toNat := by
  rw [BitVec.toNat_ofInt]
  rfl

theorem mask_nat (a : Int) : ((BitVec.ofInt 64 a &&& BitVec.ofInt 64 4294967295).toNat : Int) = a % 4294967296 := by
  rw [BitVec.toNat_and, ofInt_toNat64]
  have h1 : (BitVec.ofInt 64 4294967295).toNat = 2 ^ 32 - 1 := by decide
  rw [h1, Nat.and_two_pow_sub_one_eq_mod]
  omega

theorem mask_i (a : Int) : IntKind.i64.wrap ((BitVec.ofInt IntKind.i64.bits a &&& BitVec.ofInt IntKind.i64.bits 4294967295).toNat : Int) = a % 4294967296 := by
  show IntKind.i64.wrap ((BitVec.ofInt 64 a &&& BitVec.ofInt 64 4294967295).toNat : Int) = _
  rw [mask_nat]
  exact wrap_i (by omega) (by omega)

theorem mask_u (a : Int) : IntKind.u64.wrap ((BitVec.ofInt IntKind.u64.bits a &&& BitVec.ofInt IntKind.u64.bits 4294967295).toNat : Int) = a % 4294967296 := by
  show IntKind.u64.wrap ((BitVec.ofInt 64 a &&& BitVec.ofInt 64 4294967295).toNat : Int) = _
  rw [mask_nat]
  exact wrap_u (by omega) (by omega)

theorem or_u {q r : Int} (hq : 0 ≤ q) (hq2 : q < 4294967296) (hr : 0 ≤ r) (hr2 : r < 4294967296) : IntKind.u64.wrap ((BitVec.ofInt IntKind.u64.bits (q * 4294967296) ||| BitVec.ofInt IntKind.u64.bits r).toNat : Int) = q * 4294967296 + r := by
  show IntKind.u64.wrap ((BitVec.ofInt 64 (q * 4294967296) ||| BitVec.ofInt 64 r).toNat : Int) = _
  obtain ⟨a, rfl⟩ := Int.eq_ofNat_of_zero_le hq
  obtain ⟨b, rfl⟩ := Int.eq_ofNat_of_zero_le hr
  have h1 : (BitVec.ofInt 64 ((a : Int) * 4294967296)).toNat = a <<< 32 := by
    rw [ofInt_toNat64, Nat.shiftLeft_eq]
    omega
  have h2 : (BitVec.ofInt 64 (b : Int)).toNat = b := by
    rw [ofInt_toNat64]
    omega
  rw [BitVec.toNat_or, h1, h2, ← Nat.shiftLeft_add_eq_or_of_lt (by omega : b < 2 ^ 32), Nat.shiftLeft_eq]
  rw [wrap_u (by omega) (by omega)]
  omega

theorem shl_i (x : Int) : shiftA .shl .i64 x 32 = some (.int .i64 (IntKind.i64.wrap (x * 4294967296))) := rfl
theorem shl_u (x : Int) : shiftA .shl .u64 x 32 = some (.int .u64 (IntKind.u64.wrap (x * 4294967296))) := rfl
theorem shr_i (x : Int) : shiftA .shr .i64 x 32 = some (.int .i64 (x / 4294967296)) := by
  show some (AV.int .i64 (x.fdiv 4294967296)) = _
  rw [Int.fdiv_eq_ediv_of_nonneg _ (by decide)]
theorem shr_u (x : Int) : shiftA .shr .u64 x 32 = some (.int .u64 (x / 4294967296)) := by
  show some (AV.int .u64 (x.fdiv 4294967296)) = _
  rw [Int.fdiv_eq_ediv_of_nonneg _ (by decide)]

/-- A byte's share of one. -/
def share (b : Nat) : Nat := b * 4294967296 / 255

theorem share_small (b : Nat) (hb : b < 256) : share b ≤ 4294967296 := by unfold share; omega
theorem share_back (b : Nat) (hb : b < 256) : ((share b : Int) * 255 + 4294967296 - 1) / 4294967296 = b := by unfold share; omega

end Go.Proofs.YtahdafekballcaaGreat.AM
