/- The reference's word and its four bytes in the form that printed texts take; no condition. -/
import Derived.Test.YthkbncoklgpobaaABack
import Derived.Test.YthkbncoklgpobaaARef2
set_option linter.unusedVariables false
namespace Go.Proofs.Ythkbncoklgpobaa
open Go.RowKit
open Go.Proofs.YthkbncoklgpobaaW.PrintWords Go.Proofs.YthkbncoklgpobaaW.PrintLast Go.Proofs.YthkbncoklgpobaaW.PrintMore

def refW (kd d a b i : Int) : Int := (QArmDecodes.portcullisref25_Word.f 40 kd d a b i).getD (-1)
theorem refW_eq (kd d a b i : Int) : QArmDecodes.portcullisref25_Word.f 40 kd d a b i = some (refW kd d a b i) ∧ IsW kd d a b i (refW kd d a b i) := by
  obtain ⟨r, h, hw⟩ := Word_isW 0 kd d a b i
  unfold refW
  rw [show (40 : Nat) = 0 + 40 from rfl, h]
  exact ⟨rfl, hw⟩
def ref_word.f (a0_0 a0_1 a0_2 a0_3 a0_4 : Int) : Option Int := some (refW a0_0 a0_1 a0_2 a0_3 a0_4)
theorem ref_word.calls (a0_0 : Int) (a0_1 : Int) (a0_2 : Int) (a0_3 : Int) (a0_4 : Int) (r : Int) (w : World) (h : ref_word.f a0_0 a0_1 a0_2 a0_3 a0_4 = some r) :
    Calls Try.prog 13 #[.agg #[.int .i64 a0_0, .int .i64 a0_1, .int .i64 a0_2, .int .i64 a0_3, .int .i64 a0_4]] w fun e w' => e = .returned (.int .i64 r) ∧ Below w.heap.size w w' :=
  QArmDecodes.portcullisref25_Word.calls 40 _ _ _ _ _ r w ((refW_eq _ _ _ _ _).1.trans h)
def ref_le.f (n k : Int) : Option ByteArray := if 0 ≤ n ∧ k = 4 then some (strOfNums [n % 256, n / 256 % 256, n / 65536 % 256, n / 16777216 % 256]) else none
theorem ref_le.calls (n k : Int) (r : ByteArray) (w : World) (h : ref_le.f n k = some r) :
    Calls Try.prog 14 #[.int .u64 n, .int .i64 k] w fun e w' => e = .returned (.string r) ∧ Below w.heap.size w w' := by
  unfold ref_le.f at h
  split at h
  · rename_i hs
    obtain ⟨h0, rfl⟩ := hs
    exact QLe.portcullisref02_Le.calls 5 n 4 r w ((le4_bytes n h0 0).trans h)
  · cases h
end Go.Proofs.Ythkbncoklgpobaa
