/- Numbers as bytes and back, as the reference lays them; no condition beyond each lemma's own. -/
import Derived.Test.YthkbncoklgpobaaABits
import Derived.Test.YthkbncoklgpobaaQLex1
set_option linter.unusedVariables false
set_option linter.unusedSimpArgs false
namespace Go.Proofs.Ythkbncoklgpobaa
open Go.RowKit
open Go.Proofs.YthkbncoklgpobaaW.PrintWords Go.Proofs.YthkbncoklgpobaaW.PrintLast Go.Proofs.YthkbncoklgpobaaW.PrintMore
open QLe

theorem wraps_u64 (n : Int) (h0 : 0 ≤ n) (h1 : n < 18446744073709551616) : IntKind.u64.wrap n = n := by
  have : IntKind.u64.wrap n = n % 18446744073709551616 := by simp [IntKind.wrap, IntKind.bits, IntKind.signed]
  rw [this]; omega
theorem join_u64 (x b : Int) (hx0 : 0 ≤ x) (hx1 : x < 36028797018963968) (hb0 : 0 ≤ b) (hb1 : b < 256) : bits BinOp.or IntKind.u64 (IntKind.u64.wrap (x * 256)) (IntKind.u64.wrap b) = x * 256 + b := by
  rw [wraps_u64 _ (by omega) (by omega), wraps_u64 _ (by omega) (by omega)]
  have p63 : (2 : Int) ^ 63 = 9223372036854775808 := by decide
  refine bits_join .u64 63 (by decide) (fun n h0 h1 => wraps_u64 n h0 (by omega)) 8 (x * 256) b (by omega) (by omega) (by omega) hb0 (by omega) (by omega)
def le4 (s : ByteArray) : Int := bt s 0 + 256 * (bt s 1 + 256 * (bt s 2 + 256 * bt s 3))
theorem fromLe4 (s : ByteArray) (h : s.size = 4) (k : Nat) : portcullisref02_FromLe.f (k + 5) s = some (le4 s) := by
  unfold portcullisref02_FromLe.f
  have e : mn (s.size : Int) 8 - 1 = 3 := by rw [h]; decide
  have b0 := bt_range s 0
  have b1 := bt_range s 1
  have b2 := bt_range s 2
  have b3 := bt_range s 3
  have w2 : wrap64 (3 - 1) = 2 := by unfold wrap64; omega
  have w1 : wrap64 (2 - 1) = 1 := by unfold wrap64; omega
  have w0 : wrap64 (1 - 1) = 0 := by unfold wrap64; omega
  have wm : wrap64 (0 - 1) = -1 := by unfold wrap64; omega
  rw [e]
  rw [portcullisref02_FromLe.l0, if_pos (by omega), if_pos (by omega), if_pos (by omega), w2]
  rw [portcullisref02_FromLe.l0, if_pos (by omega), if_pos (by omega), if_pos (by omega), w1]
  rw [portcullisref02_FromLe.l0, if_pos (by omega), if_pos (by omega), if_pos (by omega), w0]
  rw [portcullisref02_FromLe.l0, if_pos (by omega), if_pos (by omega), if_pos (by omega), wm]
  rw [portcullisref02_FromLe.l0, if_neg (by omega)]
  rw [join_u64 0 (bt s 3) (by omega) (by omega) (by omega) (by omega), join_u64 _ (bt s 2) (by omega) (by omega) (by omega) (by omega), join_u64 _ (bt s 1) (by omega) (by omega) (by omega) (by omega), join_u64 _ (bt s 0) (by omega) (by omega) (by omega) (by omega)]
  unfold le4
  congr 1
  omega
theorem le_step (k : Nat) (n : Int) (h0 : 0 ≤ n) : ∀ (j : Nat), j ≤ 8 → IntKind.u64.wrap (wrap64 (8 * (j : Int))) = 8 * j ∧ shr .u64 n (8 * (j : Int)) = n / 2 ^ (8 * j) := by
  intro j hj
  have e : wrap64 (8 * (j : Int)) = 8 * j := by unfold wrap64; omega
  refine ⟨by rw [e, wraps_u64 _ (by omega) (by omega)], ?_⟩
  unfold shr
  rw [show min (8 * (j : Int)).toNat IntKind.u64.bits = 8 * j by simp [IntKind.bits]; omega]
theorem le4_bytes (n : Int) (h0 : 0 ≤ n) (k : Nat) : portcullisref02_Le.f (k + 5) n 4 = some (strOfNums [n % 256, n / 256 % 256, n / 65536 % 256, n / 16777216 % 256]) := by
  unfold portcullisref02_Le.f
  rw [if_pos (by omega), if_pos (by decide)]
  have s0 := le_step k n h0 0 (by omega)
  have s1 := le_step k n h0 1 (by omega)
  have s2 := le_step k n h0 2 (by omega)
  have s3 := le_step k n h0 3 (by omega)
  show portcullisref02_Le.l0 (k + 5) n 4 [0, 0, 0, 0] 0 = _
  have w1 : wrap64 (0 + 1) = 1 := by unfold wrap64; omega
  have w2 : wrap64 (1 + 1) = 2 := by unfold wrap64; omega
  have w3 : wrap64 (2 + 1) = 3 := by unfold wrap64; omega
  have w4 : wrap64 (3 + 1) = 4 := by unfold wrap64; omega
  have t0 : IntKind.u64.wrap (wrap64 (8 * 0)) = 0 := s0.1
  have t1 : IntKind.u64.wrap (wrap64 (8 * 1)) = 8 := s1.1
  have t2 : IntKind.u64.wrap (wrap64 (8 * 2)) = 16 := s2.1
  have t3 : IntKind.u64.wrap (wrap64 (8 * 3)) = 24 := s3.1
  have u0 : shr .u64 n 0 = n := by have := s0.2; simpa using this
  have u1 : shr .u64 n 8 = n / 256 := s1.2
  have u2 : shr .u64 n 16 = n / 65536 := s2.2
  have u3 : shr .u64 n 24 = n / 16777216 := s3.2
  rw [portcullisref02_Le.l0, if_pos (by omega), t0, if_pos (by omega), if_pos (by omega), if_pos (by simp), u0, w1]
  rw [portcullisref02_Le.l0, if_pos (by omega), t1, if_pos (by omega), if_pos (by omega), if_pos (by simp), u1, w2]
  rw [portcullisref02_Le.l0, if_pos (by omega), t2, if_pos (by omega), if_pos (by omega), if_pos (by simp), u2, w3]
  rw [portcullisref02_Le.l0, if_pos (by omega), t3, if_pos (by omega), if_pos (by omega), if_pos (by simp), u3, w4]
  rw [portcullisref02_Le.l0, if_neg (by omega)]
  rfl
end Go.Proofs.Ythkbncoklgpobaa
