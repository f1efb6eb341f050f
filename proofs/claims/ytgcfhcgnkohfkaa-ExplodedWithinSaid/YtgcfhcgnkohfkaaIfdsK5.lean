/- The closed example of the exploded supergraph, evaluated by the kernel: the third trail. -/
import Derived.Test.YtgcfhcgnkohfkaaIfdsK2
set_option linter.unusedSimpArgs false
set_option linter.unusedVariables false
namespace Go.Can
open Go Go.Proofs

set_option maxRecDepth 1000000 in
theorem trailC : callN Try.prog cfI 22 37 [oneA, .agg [.list true 1 [.int .i64 0], .list true 1 [.int .i64 0, .int .i64 2]]] [] 0 = some (.int .i64 1, []) := by kernel_rfl

end Go.Can
