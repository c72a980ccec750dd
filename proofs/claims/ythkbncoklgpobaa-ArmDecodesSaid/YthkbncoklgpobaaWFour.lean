-- written by a program of this session out of what print.sh had written: the declarations that this claim uses
import Derived.Test.YthkbncoklgpobaaWTab
/-! ### 56. Four, five, six operations that may come up next, in any order -/
namespace Go.Proofs.YthkbncoklgpobaaW.PrintLast
section
variable {P : Program} {ops : Array Oper} {Q : Exit → Act → World → Prop} {md : Region.Mode} {S : World → Prop} {ds : List Nat} {T : Bool × List (List Nat × List Nat)}
end
end Go.Proofs.YthkbncoklgpobaaW.PrintLast
