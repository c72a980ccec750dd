/- Bytes out of fields; no condition beyond each lemma's own. -/
import Derived.Test.YtpahjllcomejbaaFr
import Derived.Laws.BitsLemmas
import Derived.Laws.BitsAllLaws
set_option linter.unusedVariables false
set_option linter.unusedSimpArgs false
namespace Go.Proofs.Ytpahjllcomejbaa
open Go.RowKit Go.MapKept
theorem and_mask (n : Int) (i : Nat) (hi : i ≤ 62) : bits BinOp.and IntKind.i64 n (2 ^ i - 1) = n % 2 ^ i := by
  have e0 : ∀ x y : Int, bits BinOp.and IntKind.i64 x y = IntKind.i64.wrap (((BitVec.ofInt 64 x) &&& (BitVec.ofInt 64 y)).toNat : Int) := fun _ _ => rfl
  have hp : (2 : Nat) ^ i ≤ 2 ^ 62 := Nat.pow_le_pow_right (by omega) hi
  have hpos : 0 < 2 ^ i := Nat.two_pow_pos i
  have hc : ((2 : Int) ^ i - 1) = ((2 ^ i - 1 : Nat) : Int) := by rw [Int.natCast_sub hpos]; simp
  have e1 : (BitVec.ofInt 64 ((2 ^ i - 1 : Nat) : Int)).toNat = 2 ^ i - 1 := by rw [BitVec.toNat_ofInt]; omega
  have e2 : (BitVec.ofInt 64 n).toNat = (n % 18446744073709551616).toNat := by rw [BitVec.toNat_ofInt]; rfl
  rw [e0, BitVec.toNat_and, hc, e1, e2, Nat.and_two_pow_sub_one_eq_mod]
  have hd : ((2 : Int) ^ i) ∣ 18446744073709551616 := ⟨2 ^ (64 - i), by rw [← Int.pow_add, show i + (64 - i) = 64 by omega]; rfl⟩
  have h3 : (((n % 18446744073709551616).toNat % 2 ^ i : Nat) : Int) = n % 2 ^ i := by
    rw [Int.natCast_emod, Int.toNat_of_nonneg (by omega)]
    have : ((2 ^ i : Nat) : Int) = 2 ^ i := by simp
    rw [this, Int.emod_emod_of_dvd _ hd]
  have h4 : (n % 18446744073709551616).toNat % 2 ^ i < 2 ^ i := Nat.mod_lt _ hpos
  rw [IntKind.wrap_i64, h3]
  have h5 : (2 ^ i : Nat) ≤ 4611686018427387904 := hp
  have : 0 ≤ n % 2 ^ i ∧ n % 2 ^ i < 4611686018427387904 := by rw [← h3]; omega
  omega
theorem and7 (n : Int) : bits BinOp.and IntKind.i64 n 7 = n % 8 := by simpa using and_mask n 3 (by omega)
theorem and1 (n : Int) : bits BinOp.and IntKind.i64 n 1 = n % 2 := by simpa using and_mask n 1 (by omega)
theorem and15 (n : Int) : bits BinOp.and IntKind.i64 n 15 = n % 16 := by simpa using and_mask n 4 (by omega)
theorem or_u8 (x y : Int) (i : Nat) (hi : i ≤ 8) (hx0 : 0 ≤ x) (hx1 : x < 256) (hz : x % 2 ^ i = 0) (hy0 : 0 ≤ y) (hy1 : y < 2 ^ i) : bits BinOp.or IntKind.u8 x y = x + y := by
  have hp : (2 : Int) ^ i ≤ 256 := by
    have h : i = 0 ∨ i = 1 ∨ i = 2 ∨ i = 3 ∨ i = 4 ∨ i = 5 ∨ i = 6 ∨ i = 7 ∨ i = 8 := by omega
    rcases h with rfl | rfl | rfl | rfl | rfl | rfl | rfl | rfl | rfl <;> decide
  exact bits_join .u8 8 (by decide) wraps_u8 i x y hx0 hz (by simp; omega) hy0 hy1 (by simp; omega)
theorem fieldsByte (b reg rm : Int) (h : b = 128 ∨ b = 192) : bits BinOp.or IntKind.u8 (bits BinOp.or IntKind.u8 b (bits BinOp.and IntKind.i64 reg 7 % 256 * 8 % 256)) (bits BinOp.and IntKind.i64 rm 7 % 256) = b + reg % 8 * 8 + rm % 8 := by
  rw [and7, and7, or_u8 b _ 6 (by omega) (by omega) (by omega) (by rcases h with rfl | rfl <;> decide) (by omega) (by simp; omega), or_u8 _ _ 3 (by omega) (by omega) (by omega) (by simp; omega) (by omega) (by simp; omega)]
  omega
theorem rexByte (b reg rm : Int) (h : b = 64 ∨ b = 72) : bits BinOp.or IntKind.u8 (bits BinOp.or IntKind.u8 b (bits BinOp.and IntKind.i64 (reg / 8) 1 % 256 * 4 % 256)) (bits BinOp.and IntKind.i64 (rm / 8) 1 % 256) = b + reg / 8 % 2 * 4 + rm / 8 % 2 := by
  rw [and1, and1, or_u8 b _ 3 (by omega) (by omega) (by omega) (by rcases h with rfl | rfl <;> decide) (by omega) (by simp; omega), or_u8 _ _ 1 (by omega) (by omega) (by omega) (by simp; omega) (by omega) (by simp; omega)]
  omega
end Go.Proofs.Ytpahjllcomejbaa
