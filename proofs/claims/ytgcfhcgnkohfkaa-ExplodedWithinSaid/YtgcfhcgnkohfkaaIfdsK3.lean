/- The closed example of the exploded supergraph, evaluated by the kernel: the first trail. -/
import Derived.Test.YtgcfhcgnkohfkaaIfdsK2
set_option linter.unusedSimpArgs false
set_option linter.unusedVariables false
namespace Go.Can
open Go Go.Proofs

set_option maxRecDepth 1000000 in
theorem trailA : callN Try.prog cfI 22 37 [oneA, .agg [.list true 1 [.int .i64 0, .int .i64 1], .list true 1 [.int .i64 0, .int .i64 1, .int .i64 1]]] [] 0 = some (.int .i64 0, []) := by kernel_rfl

end Go.Can
