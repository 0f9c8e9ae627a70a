/- Laws of this seat over what the arguments read as. -/
import Derived.Test.YtakfalfggmgcfaaDoorDP
import Derived.Test.YtakfalfggmgcfaaDoorCu18
import Derived.Test.YtakfalfggmgcfaaDoorProg
import Derived.KernelRfl
set_option linter.unusedVariables false
set_option linter.unusedSimpArgs false
set_option maxHeartbeats 4000000
/-! How the arguments read. -/
namespace Go.Cu
open Go.Proofs Go.RowKit Go.ChangeShapes Go.WideShapes Go.Deep


end Go.Cu
