/- Rules for walks over facts, pure functions and plain laws; no condition. -/
import Derived.Test.YtakfalfggmgcfaaDoorK2
set_option linter.unusedSimpArgs false
set_option linter.unusedVariables false
set_option maxRecDepth 1000000
/-! Plain laws: the example's values. -/
namespace Go.Cu
end Go.Cu
