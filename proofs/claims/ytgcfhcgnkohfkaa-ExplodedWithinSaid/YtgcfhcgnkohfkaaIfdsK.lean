/- The closed examples, evaluated by the kernel. -/
import Derived.Test.YtgcfhcgnkohfkaaIfdsA
set_option linter.unusedSimpArgs false
set_option linter.unusedVariables false
namespace Go.Can
open Go Go.Proofs

set_option maxRecDepth 1000000 in
theorem knows30 : callN Try.prog cfI 40 9 [] [] 0 = some (.bool true, []) := by kernel_rfl

end Go.Can
