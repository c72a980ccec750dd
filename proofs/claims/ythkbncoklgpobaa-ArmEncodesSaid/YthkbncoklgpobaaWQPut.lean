/- Several texts of this claim in one: each is told where it begins. -/
import Derived.Test.YthkbncoklgpobaaWTab
import Derived.Test.YthkbncoklgpobaaWWords
import Derived.Test.YthkbncoklgpobaaWLast
-- written by a program of this session out of what print.sh had written: the declarations that this claim uses
/-! ### 56. Four, five, six operations that may come up next, in any order -/
namespace Go.Proofs.YthkbncoklgpobaaW.PrintLast
section
variable {P : Program} {ops : Array Oper} {Q : Exit → Act → World → Prop} {md : Region.Mode} {S : World → Prop} {ds : List Nat} {T : Bool × List (List Nat × List Nat)}
end
end Go.Proofs.YthkbncoklgpobaaW.PrintLast

-- written by a program of this session out of what print.sh had written: the declarations that this claim uses
/-! ### 39. Stores into a row that may begin inside its block (Q): Q_form, Q_elem, Q_seg; scalars: Q_cell, Q_putg -/
namespace Go.Proofs.YthkbncoklgpobaaW.PrintWords
open Go.RowKit
namespace Kd
section
variable {α : Type} {d : Kd α} {e base g o n cap : Nat} {ok okp : Nat → Prop} {w W : World} {v : Value} {xs : List α}
end
section
variable {α : Type} {enc : α → Value} {h1 : ∀ x, (enc x).oneCell' = true} {e base g o n cap : Nat} {ok : Nat → Prop} {W : World} {xs : List α}
end
end Kd
end Go.Proofs.YthkbncoklgpobaaW.PrintWords
