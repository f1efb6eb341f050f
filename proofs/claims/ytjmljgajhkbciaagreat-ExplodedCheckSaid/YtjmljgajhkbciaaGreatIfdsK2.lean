/- The closed example of the exploded supergraph, evaluated by the kernel: the path. The closed example of the exploded supergraph, evaluated by the kernel: the first trail. The closed example of the exploded supergraph, evaluated by the kernel: the second trail. The closed example of the exploded supergraph, evaluated by the kernel: the third trail. -/
import Derived.Test.YtjmljgajhkbciaaGreatIfdsA
set_option linter.unusedSimpArgs false
set_option linter.unusedVariables false
namespace Go.Can
open Go Go.Proofs

/-- The closed example. -/
def oneA : AV := .agg [.list true 3 [.agg [.int .i64 0, .int .i64 1, .int .i64 (-1)], .agg [.int .i64 0, .int .i64 2, .int .i64 0], .agg [.int .i64 0, .int .i64 3, .int .i64 (-1)], .agg [.int .i64 0, .int .i64 4, .int .i64 (-1)]],
  .list true 4 [.agg [.int .i64 0, .int .i64 1, .int .i64 1, .int .i64 (-1)], .agg [.int .i64 1, .int .i64 2, .int .i64 1, .int .i64 (-1)]], .int .i64 0, .int .i64 3,
  .list true 1 [.list true 2 [.agg [.int .i64 0, .int .i64 0], .agg [.int .i64 0, .int .i64 1]], .list true 2 [.agg [.int .i64 0, .int .i64 0], .agg [.int .i64 1, .int .i64 1]]],
  .list true 2 [.agg [.int .i64 2, .int .i64 2]]]

set_option maxRecDepth 1000000 in
theorem one36 : callN Tryz.prog cfI 22 21 [] [] 0 = some (oneA, []) := by kernel_rfl

set_option maxRecDepth 1000000 in
theorem along35 : callN Tryz.prog cfI 22 7 [oneA, .list true 1 [.int .i64 0, .int .i64 1]] [] 0 = some (.tup [.list false 1 [.int .i64 1, .int .i64 2], .int .i64 0], []) := by kernel_rfl

end Go.Can

namespace Go.Can
open Go Go.Proofs

set_option maxRecDepth 1000000 in
theorem knowsA : callN Tryz.prog cfI 22 11 [oneA, .agg [.list true 1 [.int .i64 0, .int .i64 1], .list true 1 [.int .i64 0, .int .i64 1, .int .i64 1]]] [] 0 = some (.int .i64 0, []) := by kernel_rfl

end Go.Can

namespace Go.Can
open Go Go.Proofs

set_option maxRecDepth 1000000 in
theorem knowsB : callN Tryz.prog cfI 22 11 [oneA, .agg [.list true 1 [.int .i64 0, .int .i64 1], .list true 1 [.int .i64 0, .int .i64 0, .int .i64 2]]] [] 0 = some (.int .i64 0, []) := by kernel_rfl

end Go.Can

namespace Go.Can
open Go Go.Proofs

set_option maxRecDepth 1000000 in
theorem knowsC : callN Tryz.prog cfI 22 11 [oneA, .agg [.list true 1 [.int .i64 0], .list true 1 [.int .i64 0, .int .i64 2]]] [] 0 = some (.int .i64 1, []) := by kernel_rfl

end Go.Can
