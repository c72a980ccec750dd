-- written by a program of this session out of what print.sh had written: the declarations that this claim uses
import Derived.Test.YthkbncoklgpobaaWInv
import Derived.Test.YthkbncoklgpobaaWFootNe
namespace Go.Proofs.YthkbncoklgpobaaW.PrintWords
open Go.RowKit
end Go.Proofs.YthkbncoklgpobaaW.PrintWords
namespace Go.Proofs.YthkbncoklgpobaaW.PrintLast
section
variable {ops : Array Oper} {a : Act} {o og : Oper} {g : Nat} {t : Tmp} {u : Bool}
end
end Go.Proofs.YthkbncoklgpobaaW.PrintLast
