/- Four bytes joined by or are their number; no condition. -/
import Derived.Test.YtgkbiknokpmjmaaKLaw
import Derived.BigQuiet
set_option linter.unusedVariables false
set_option linter.unusedSimpArgs false
namespace Go.Proofs.Ytgkbiknokpmjmaa
open Go.RowKit Go.MapKept

theorem wrap64_nat (n : Nat) (h : n < 9223372036854775808) : wrap64 (n : Int) = n := by unfold wrap64; omega
theorem or_i64 (v b k : Nat) (hv : v < 2 ^ k) (hb : b < 256) (hk : k ≤ 48) : bits BinOp.or IntKind.i64 (v : Int) ((b * 2 ^ k : Nat) : Int) = ((v + b * 2 ^ k : Nat) : Int) := by
  have hp : 2 ^ k ≤ 2 ^ 48 := Nat.pow_le_pow_right (by omega) hk
  have hbb : b * 2 ^ k + 2 ^ k ≤ 256 * 2 ^ k := by
    have := Nat.mul_le_mul_right (2 ^ k) (show b + 1 ≤ 256 by omega)
    rwa [Nat.add_mul, Nat.one_mul] at this
  have h48 : 256 * 2 ^ 48 = 72057594037927936 := by decide
  have e0 : ∀ x y : Int, bits BinOp.or IntKind.i64 x y = IntKind.i64.wrap (((BitVec.ofInt 64 x) ||| (BitVec.ofInt 64 y)).toNat : Int) := fun _ _ => rfl
  have e1 : ∀ y : Nat, y < 18446744073709551616 → (BitVec.ofInt 64 (y : Int)).toNat = y := fun y hy => by rw [BitVec.toNat_ofInt]; omega
  rw [e0, BitVec.toNat_or, e1 v (by omega), e1 _ (by omega), Nat.or_comm, Nat.mul_comm b, ← Nat.two_pow_add_eq_or_of_lt hv, IntKind.wrap_i64, Nat.mul_comm]
  omega
theorem or4 (b0 b1 b2 b3 : Nat) (h0 : b0 < 256) (h1 : b1 < 256) (h2 : b2 < 256) (h3 : b3 < 256) :
    bits BinOp.or IntKind.i64 (bits BinOp.or IntKind.i64 (bits BinOp.or IntKind.i64 (wrap64 b0) (wrap64 (wrap64 b1 * 256))) (wrap64 (wrap64 b2 * 65536))) (wrap64 (wrap64 b3 * 16777216)) = ((b0 + 256 * (b1 + 256 * (b2 + 256 * b3)) : Nat) : Int) := by
  have c : ∀ (b k : Nat), b < 256 → k ≤ 16777216 → wrap64 (wrap64 (b : Int) * (k : Int)) = ((b * k : Nat) : Int) := by
    intro b k hb hk
    have hbk : b * k ≤ 255 * 16777216 := Nat.mul_le_mul (by omega) hk
    rw [wrap64_nat b (by omega), ← Int.natCast_mul, wrap64_nat _ (by omega)]
  have c1 : wrap64 (wrap64 b1 * 256) = ((b1 * 2 ^ 8 : Nat) : Int) := c b1 256 h1 (by omega)
  have c2 : wrap64 (wrap64 b2 * 65536) = ((b2 * 2 ^ 16 : Nat) : Int) := c b2 65536 h2 (by omega)
  have c3 : wrap64 (wrap64 b3 * 16777216) = ((b3 * 2 ^ 24 : Nat) : Int) := c b3 16777216 h3 (by omega)
  have e1 := or_i64 b0 b1 8 (by omega) h1 (by omega)
  have e2 := or_i64 (b0 + b1 * 2 ^ 8) b2 16 (by omega) h2 (by omega)
  have e3 := or_i64 (b0 + b1 * 2 ^ 8 + b2 * 2 ^ 16) b3 24 (by omega) h3 (by omega)
  rw [c1, c2, c3, wrap64_nat b0 (by omega), e1, e2, e3]
  omega
theorem leNum4 (l : List Nat) (h : l.length = 4) : leNum l = l.getD 0 0 + 256 * (l.getD 1 0 + 256 * (l.getD 2 0 + 256 * l.getD 3 0)) := by
  match l, h with
  | [a, b, c, d], _ => simp [leNum]
end Go.Proofs.Ytgkbiknokpmjmaa
