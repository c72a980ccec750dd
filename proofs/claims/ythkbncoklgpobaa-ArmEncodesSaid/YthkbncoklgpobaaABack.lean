/- Several texts of this claim in one: each is told where it begins. -/
import Derived.Test.YthkbncoklgpobaaAAwake
import Derived.Test.YthkbncoklgpobaaALe
import Derived.Test.YthkbncoklgpobaaMapRaw
import Derived.Outline
import Derived.Deep.QuietTactic
import Derived.BigQuiet
import Derived.Lib.Bytes
/- arm's Decode, the law's examples and the reference's number of four bytes in the form that printed texts take; no condition. -/
set_option linter.unusedVariables false
namespace Go.Proofs.Ythkbncoklgpobaa
open Go.RowKit
open Go.Proofs.YthkbncoklgpobaaW.PrintWords Go.Proofs.YthkbncoklgpobaaW.PrintLast Go.Proofs.YthkbncoklgpobaaW.PrintMore

abbrev Six' := Int × Int × Int × Int × Int × Int
def decW (w : Int) : Six' := (QArmDecodes.arm_Decode.f 20 w).getD (0, 0, 0, 0, 0, 30)
theorem decW_eq (w : Int) : QArmDecodes.arm_Decode.f 20 w = some (decW w) := by
  unfold decW
  by_cases h : ∃ kd d a b i, Enc kd d a b i w
  · obtain ⟨kd, d, a, b, i, h⟩ := h
    rw [decode_enc h 0]; rfl
  · rw [decode_none (fun kd d a b i h' => h ⟨kd, d, a, b, i, h'⟩) 0]; rfl
def arm_decode.f (a0 : Int) : Option Six' := some (decW a0)
theorem arm_decode.calls (a0 : Int) (r1 : Int) (r2 : Int) (r3 : Int) (r4 : Int) (r5 : Int) (r6 : Int) (w : World) (h : arm_decode.f a0 = some (r1, r2, r3, r4, r5, r6)) :
    Calls Try.prog 9 #[.int .i64 a0] w fun e w' => e = .returned (.tuple #[.agg #[.int .i64 r1, .int .i64 r2, .int .i64 r3, .int .i64 r4, .int .i64 r5], .int .i64 r6]) ∧ Below w.heap.size w w' :=
  QArmDecodes.arm_Decode.calls 20 a0 r1 r2 r3 r4 r5 r6 w ((decW_eq a0).trans h)
def ref_fromle.f (s : ByteArray) : Option Int := if s.size = 4 then some (le4 s) else none
theorem ref_fromle.calls (s : ByteArray) (r : Int) (w : World) (h : ref_fromle.f s = some r) :
    Calls Try.prog 11 #[.string s] w fun e w' => e = .returned (.int .u64 r) ∧ Below w.heap.size w w' := by
  unfold ref_fromle.f at h
  split at h
  · rename_i hs
    exact QLe.portcullisref02_FromLe.calls 5 s r w ((fromLe4 s hs 0).trans h)
  · cases h
def law_awake.f : Option Bool := some true
theorem law_awake.calls (r : Bool) (w : World) (h : law_awake.f = some r) :
    Calls Try.prog 8 #[] w fun e w' => e = .returned (.bool r) ∧ Below w.heap.size w w' :=
  QArmDecodes.portcullislaw25_awake.calls 100 r w ((awake_true 0).trans h)
end Go.Proofs.Ythkbncoklgpobaa

/- ArmBack: what was encoded is decoded as it was; condition: the instructions lie in memory, and their bytes fit. -/
set_option linter.unusedVariables false
set_option linter.unusedSimpArgs false
namespace Go.Proofs.Ythkbncoklgpobaa
open Go.RowKit Go.MapKept
open Go.Proofs.YthkbncoklgpobaaW.PrintWords Go.Proofs.YthkbncoklgpobaaW.PrintLast Go.Proofs.YthkbncoklgpobaaW.PrintMore
open QArmDecodes (S32 k32 z32)

attribute [local go_sem high] QArmDecodes.eqA32
end Go.Proofs.Ythkbncoklgpobaa
