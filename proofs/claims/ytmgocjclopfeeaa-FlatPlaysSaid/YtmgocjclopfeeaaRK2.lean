/- The reference's memory: what it tells (size, numbers, bytes) and SetFail; condition: the memory is held. -/
import Derived.Test.YtmgocjclopfeeaaRK1
import Derived.Test.YtmgocjclopfeeaaKWalk5
set_option linter.unusedVariables false
set_option linter.unusedSimpArgs false
namespace Go.Proofs.Ytmgocjclopfeeaa
open Go.RowKit Go.MapKept

end Go.Proofs.Ytmgocjclopfeeaa
