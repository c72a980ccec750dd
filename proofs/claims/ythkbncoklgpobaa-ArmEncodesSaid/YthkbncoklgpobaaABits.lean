/- Bits of words as sums; no condition beyond each lemma's own. -/
import Derived.Test.YthkbncoklgpobaaAHand
set_option linter.unusedVariables false
set_option linter.unusedSimpArgs false
namespace Go.Proofs.Ythkbncoklgpobaa
open Go.RowKit

theorem and_mask (n : Int) (i : Nat) (hi : i ≤ 62) : bits BinOp.and IntKind.i64 n (2 ^ i - 1) = n % 2 ^ i := by
  have e0 : ∀ x y : Int, bits BinOp.and IntKind.i64 x y = IntKind.i64.wrap (((BitVec.ofInt 64 x) &&& (BitVec.ofInt 64 y)).toNat : Int) := fun _ _ => rfl
  have hp : (2 : Nat) ^ i ≤ 2 ^ 62 := Nat.pow_le_pow_right (by omega) hi
  have hpos : 0 < 2 ^ i := Nat.two_pow_pos i
  have hc : ((2 : Int) ^ i - 1) = ((2 ^ i - 1 : Nat) : Int) := by rw [Int.natCast_sub hpos]; simp
  have e1 : (BitVec.ofInt 64 ((2 ^ i - 1 : Nat) : Int)).toNat = 2 ^ i - 1 := by rw [BitVec.toNat_ofInt]; omega
  have e2 : (BitVec.ofInt 64 n).toNat = (n % 18446744073709551616).toNat := by rw [BitVec.toNat_ofInt]; rfl
  rw [e0, BitVec.toNat_and, hc, e1, e2, Nat.and_two_pow_sub_one_eq_mod]
  have hd : ((2 : Int) ^ i) ∣ 18446744073709551616 := ⟨2 ^ (64 - i), by rw [← Int.pow_add, show i + (64 - i) = 64 by omega]; rfl⟩
  have h3 : (((n % 18446744073709551616).toNat % 2 ^ i : Nat) : Int) = n % 2 ^ i := by
    rw [Int.natCast_emod, Int.toNat_of_nonneg (by omega)]
    have : ((2 ^ i : Nat) : Int) = 2 ^ i := by simp
    rw [this, Int.emod_emod_of_dvd _ hd]
  have h4 : (n % 18446744073709551616).toNat % 2 ^ i < 2 ^ i := Nat.mod_lt _ hpos
  rw [IntKind.wrap_i64, h3]
  have h5 : (2 ^ i : Nat) ≤ 4611686018427387904 := hp
  have : 0 ≤ n % 2 ^ i ∧ n % 2 ^ i < 4611686018427387904 := by rw [← h3]; omega
  omega
theorem or_nat (x v k m : Nat) (hz : x / 2 ^ k % 2 ^ m = 0) (hv : v < 2 ^ m) : x ||| v * 2 ^ k = x + v * 2 ^ k := by
  have hr : x % 2 ^ k < 2 ^ k := Nat.mod_lt _ (Nat.two_pow_pos k)
  have hx : x = 2 ^ (k + m) * (x / 2 ^ k / 2 ^ m) + x % 2 ^ k := by
    have h1 := Nat.div_add_mod x (2 ^ k)
    have h2 := Nat.div_add_mod (x / 2 ^ k) (2 ^ m)
    rw [hz, Nat.add_zero] at h2
    rw [Nat.pow_add, Nat.mul_assoc, h2, h1]
  generalize x / 2 ^ k / 2 ^ m = q at hx
  generalize x % 2 ^ k = r at hx hr
  subst hx
  have hb : v * 2 ^ k + r < 2 ^ (k + m) := by
    have := Nat.mul_le_mul_right (2 ^ k) (show v + 1 ≤ 2 ^ m by omega)
    rw [Nat.add_mul, Nat.one_mul, ← Nat.pow_add, Nat.add_comm m k] at this
    omega
  have hr' : r < 2 ^ (k + m) := Nat.lt_of_lt_of_le hr (Nat.pow_le_pow_right (by omega) (by omega))
  have e1 := Nat.two_pow_add_eq_or_of_lt hr' q
  have e2 := Nat.two_pow_add_eq_or_of_lt hb q
  have e3 := Nat.two_pow_add_eq_or_of_lt hr v
  rw [Nat.mul_comm (2 ^ k) v] at e3
  rw [e1, Nat.or_assoc, Nat.or_comm r, ← e3, ← e2, ← e1]
  omega
theorem or_at (x v : Int) (k m : Nat) (hkm : k + m ≤ 62) (hx0 : 0 ≤ x) (hx1 : x < 4611686018427387904) (hz : x / 2 ^ k % 2 ^ m = 0) (hv0 : 0 ≤ v) (hv : v < 2 ^ m) :
    bits BinOp.or IntKind.i64 x (wrap64 (v * 2 ^ k)) = x + v * 2 ^ k := by
  obtain ⟨a, rfl⟩ := Int.eq_ofNat_of_zero_le hx0
  obtain ⟨b, rfl⟩ := Int.eq_ofNat_of_zero_le hv0
  have hb : b < 2 ^ m := by exact_mod_cast hv
  have ha : a / 2 ^ k % 2 ^ m = 0 := by exact_mod_cast hz
  have hc : ((b : Int) * 2 ^ k) = ((b * 2 ^ k : Nat) : Int) := by simp
  have hbk : b * 2 ^ k < 4611686018427387904 := by
    have h1 := Nat.mul_lt_mul_of_pos_right hb (Nat.two_pow_pos k)
    rw [← Nat.pow_add] at h1
    have h2 : 2 ^ (m + k) ≤ 2 ^ 62 := Nat.pow_le_pow_right (by omega) (by omega)
    have h3 : (2 : Nat) ^ 62 = 4611686018427387904 := by decide
    omega
  have e0 : ∀ x y : Int, bits BinOp.or IntKind.i64 x y = IntKind.i64.wrap (((BitVec.ofInt 64 x) ||| (BitVec.ofInt 64 y)).toNat : Int) := fun _ _ => rfl
  have e1 : ∀ y : Nat, y < 18446744073709551616 → (BitVec.ofInt 64 (y : Int)).toNat = y := fun y hy => by rw [BitVec.toNat_ofInt]; omega
  have hor := or_nat a b k m ha hb
  rw [hc]
  clear hc hv hz hv0
  generalize b * 2 ^ k = c at hbk hor ⊢
  clear hb ha
  have hw : wrap64 (c : Int) = c := by unfold wrap64; omega
  rw [hw, e0, BitVec.toNat_or, e1 a (by omega), e1 c (by omega), hor, IntKind.wrap_i64]
  omega
theorem and31 (n : Int) : bits BinOp.and IntKind.i64 n 31 = n % 32 := by simpa using and_mask n 5 (by omega)
theorem and63 (n : Int) : bits BinOp.and IntKind.i64 n 63 = n % 64 := by simpa using and_mask n 6 (by omega)
theorem and15 (n : Int) : bits BinOp.and IntKind.i64 n 15 = n % 16 := by simpa using and_mask n 4 (by omega)
theorem and1 (n : Int) : bits BinOp.and IntKind.i64 n 1 = n % 2 := by simpa using and_mask n 1 (by omega)
theorem and3 (n : Int) : bits BinOp.and IntKind.i64 n 3 = n % 4 := by simpa using and_mask n 2 (by omega)
theorem and7 (n : Int) : bits BinOp.and IntKind.i64 n 7 = n % 8 := by simpa using and_mask n 3 (by omega)
theorem and16 (n : Int) : bits BinOp.and IntKind.i64 n 65535 = n % 65536 := by simpa using and_mask n 16 (by omega)
theorem and19 (n : Int) : bits BinOp.and IntKind.i64 n 524287 = n % 524288 := by simpa using and_mask n 19 (by omega)
theorem and26 (n : Int) : bits BinOp.and IntKind.i64 n 67108863 = n % 67108864 := by simpa using and_mask n 26 (by omega)
/-- Three registers laid into a word. -/
theorem lay_reg (w v : Int) (k : Nat) (l : List PL) (hk : k ≤ 30) (hw0 : 0 ≤ w) (hw1 : w < 4294967296) (hz : w / 2 ^ k % 32 = 0) (h0 : 0 ≤ v) (h1 : v ≤ 31) : layW w (⟨0, v, k⟩ :: l) = layW (w + v * 2 ^ k) l := by
  rw [layW, if_neg (by simp [PL.bad]; omega), or_at w v k 5 (by omega) hw0 (by omega) (by simpa using hz) h0 (by simp; omega)]
theorem lay_named (w v : Int) (k : Nat) (l : List PL) (hk : k ≤ 30) (hw0 : 0 ≤ w) (hw1 : w < 4294967296) (hz : w / 2 ^ k % 32 = 0) (h0 : 0 ≤ v) (h1 : v ≤ 30) : layW w (⟨1, v, k⟩ :: l) = layW (w + v * 2 ^ k) l := by
  rw [layW, if_neg (by simp [PL.bad]; omega), or_at w v k 5 (by omega) hw0 (by omega) (by simpa using hz) h0 (by simp; omega)]
theorem lay_size (w v : Int) (k m : Nat) (l : List PL) (hk : k + m ≤ 62) (hw0 : 0 ≤ w) (hw1 : w < 4294967296) (hz : w / 2 ^ k % 2 ^ m = 0) (h0 : 0 ≤ v) (h1 : v < 2 ^ m) : layW w (⟨2, v, k⟩ :: l) = layW (w + v * 2 ^ k) l := by
  rw [layW, if_neg (by simp [PL.bad]; omega), or_at w v k m hk hw0 (by omega) hz h0 h1]
theorem lay_bad (w : Int) (p : PL) (l : List PL) (h : p.bad = true) : layW w (p :: l) = -1 := by rw [layW, if_pos h]
end Go.Proofs.Ythkbncoklgpobaa
