/- arm's word in the form that printed texts take; no condition. -/
import Derived.Test.YthkbncoklgpobaaAWord2
namespace Go.Proofs.Ythkbncoklgpobaa
open Go.RowKit

def arm_word.f (a0_0 a0_1 a0_2 a0_3 a0_4 : Int) : Option Int := some (armW a0_0 a0_1 a0_2 a0_3 a0_4)
theorem arm_word.calls (a0_0 : Int) (a0_1 : Int) (a0_2 : Int) (a0_3 : Int) (a0_4 : Int) (r : Int) (w : World) (h : arm_word.f a0_0 a0_1 a0_2 a0_3 a0_4 = some r) :
    Calls Try.prog 12 #[.agg #[.int .i64 a0_0, .int .i64 a0_1, .int .i64 a0_2, .int .i64 a0_3, .int .i64 a0_4]] w fun e w' => e = .returned (.int .i64 r) ∧ Below w.heap.size w w' := by
  obtain rfl := Option.some.inj h
  exact word_calls _ _ _ _ _ w
def arm_three.f (a0 : Int) : Option Int := some (armThree a0)
theorem arm_three.calls (a0 : Int) (r : Int) (w : World) (h : arm_three.f a0 = some r) :
    Calls Try.prog 17 #[.int .i64 a0] w fun e w' => e = .returned (.int .i64 r) ∧ Below w.heap.size w w' := by
  obtain rfl := Option.some.inj h
  refine (three_calls a0 w).mono ?_
  rintro e W ⟨rfl, n, rfl⟩
  exact ⟨rfl, below_dN (Below.refl _ _) n⟩
end Go.Proofs.Ythkbncoklgpobaa
