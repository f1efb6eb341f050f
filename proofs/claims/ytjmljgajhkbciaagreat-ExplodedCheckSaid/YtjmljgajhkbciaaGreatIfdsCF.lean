/- Contracts: the reference's check of a supergraph. -/
import Derived.Test.YtjmljgajhkbciaaGreatIfdsCD
import Derived.Test.YtjmljgajhkbciaaGreatIfdsCE
set_option linter.unusedSimpArgs false
set_option linter.unusedVariables false
namespace Go.Can
open Go Go.Proofs

set_option maxRecDepth 100000 in
set_option maxHeartbeats 16000000 in
theorem c24 {σ : St} {base : Nat} {fn fe : Bool} {ns : List ND} {es : List ED} {m : Int} :
    callL Tryz.prog cfI 38 [.agg [.list fn 3 (ns.map nodeA), .list fe 4 (es.map edgeA), .int .i64 m]] σ base = some (.int .i64 (superErr ns es m), σ) := by
  have hl : lenS (.list fn 3 (ns.map nodeA)) = some ns.length := by simp [lenS]
  have hl2 : lenS (.list fe 4 (es.map edgeA)) = some es.length := by simp [lenS]
  refine callL_pure (σ' := σ) (v := .int .i64 (superErr ns es m)) Tryz.func38 rfl (by kernel_rfl) rfl rfl (by simp) ?_ rfl
  rw [z_body]
  by_cases a1 : 8192 < (ns.length : Int)
  · have hS : superErr ns es m = 3 := by unfold superErr; rw [if_pos (by omega)]
    rw [hS]
    generalize ns.map nodeA = B at *
    generalize es.map edgeA = A at *
    simp (config := { maxSteps := 4000000 }) only [Tryz.f38, go_sem, Nat.reduceBEq, Nat.reduceAdd, Nat.reduceSub, Nat.reduceEqDiff, Nat.reduceLeDiff, Nat.reduceMul, rgT, z_regionT, allocs, isv?, z_step, z_stepE, okDst, wantedA, evalOp, evalV, evalS, storeAt, look, ofV, ofC, putA, clearA, lookV, lookVs, lookParts, adrOk, baseAt, baseOf, loadAt, partA, binA, unA, resOf, mkRes, envOf, List.range, List.range.loop, evalBuiltin, liveW, regOf, startE, optN, mapGet, mapPut, orZero, keyOk, cellOk, decide_eq_true_eq, Bool.not_eq_true', decide_eq_false_iff_not, ite_not, not_true_eq_false, not_false_eq_true, reduceCtorEq, and_true, true_and, and_self, gt_iff_lt, ge_iff_le, hl, hl2, a1]
  by_cases a2 : 32768 < (es.length : Int)
  · have hS : superErr ns es m = 3 := by unfold superErr; rw [if_pos (by omega)]
    rw [hS]
    generalize ns.map nodeA = B at *
    generalize es.map edgeA = A at *
    simp (config := { maxSteps := 4000000 }) only [Tryz.f38, go_sem, Nat.reduceBEq, Nat.reduceAdd, Nat.reduceSub, Nat.reduceEqDiff, Nat.reduceLeDiff, Nat.reduceMul, rgT, z_regionT, allocs, isv?, z_step, z_stepE, okDst, wantedA, evalOp, evalV, evalS, storeAt, look, ofV, ofC, putA, clearA, lookV, lookVs, lookParts, adrOk, baseAt, baseOf, loadAt, partA, binA, unA, resOf, mkRes, envOf, List.range, List.range.loop, evalBuiltin, liveW, regOf, startE, optN, mapGet, mapPut, orZero, keyOk, cellOk, decide_eq_true_eq, Bool.not_eq_true', decide_eq_false_iff_not, ite_not, not_true_eq_false, not_false_eq_true, reduceCtorEq, and_true, true_and, and_self, gt_iff_lt, ge_iff_le, hl, hl2, a1, a2]
  have h47 := fun b => c47 (σ := σ) (base := b) (fn := fn) (fe := fe) (ns := ns) (es := es) (m := m) (by omega)
  have hS : superErr ns es m = if mainErr ns m = 0 then firstE (errAt ns es (anyC ns es)) es.length 0 else mainErr ns m := by
    by_cases b1 : errNodes ns = 0
    · have hM : mainErr ns m = if m < 0 ∨ m ≥ ns.length ∨ (nd ns m).2.1 ≠ 1 then 14 else 0 := by unfold mainErr; rw [if_neg (fun h => h b1)]
      rw [hM]
      unfold superErr
      rw [if_neg (by omega), if_neg (fun h => h b1)]
      by_cases b2 : m < 0 ∨ m ≥ ns.length ∨ (nd ns m).2.1 ≠ 1
      · rw [if_pos b2, if_pos b2, if_neg (by decide)]
      · rw [if_neg b2, if_neg b2, if_pos rfl]
    · have hM : mainErr ns m = errNodes ns := by unfold mainErr; rw [if_pos b1]
      rw [hM, if_neg b1]
      unfold superErr
      rw [if_neg (by omega), if_pos b1]
  rw [hS]
  by_cases a3 : mainErr ns m = 0
  · have key0 := loop24 (σ := σ) (fn := fn) (fe := fe) (ns := ns) (es := es) (m := m) (by omega) es.length 0 (by omega)
    rw [show ((0 : Nat) : Int) = 0 from rfl] at key0
    rw [a3] at h47
    rw [if_pos a3]
    simp only [loopOf, findLoop, regOf, Option.getD, envOf, List.range, List.range.loop, go_sem, Nat.reduceBEq, Nat.reduceEqDiff, Option.some.injEq, reduceCtorEq, envS, Tryz.f38] at key0
    generalize firstE (errAt ns es (anyC ns es)) es.length 0 = q at *
    generalize ns.map nodeA = B at *
    generalize es.map edgeA = A at *
    by_cases hq : q = 0
    · subst hq
      simp only [if_true] at key0
      simp (config := { maxSteps := 4000000 }) only [Tryz.f38, go_sem, Nat.reduceBEq, Nat.reduceAdd, Nat.reduceSub, Nat.reduceEqDiff, Nat.reduceLeDiff, Nat.reduceMul, rgT, z_regionT, allocs, isv?, z_step, z_stepE, okDst, wantedA, evalOp, evalV, evalS, storeAt, look, ofV, ofC, putA, clearA, lookV, lookVs, lookParts, adrOk, baseAt, baseOf, loadAt, partA, binA, unA, resOf, mkRes, envOf, List.range, List.range.loop, evalBuiltin, liveW, regOf, startE, optN, mapGet, mapPut, orZero, keyOk, cellOk, decide_eq_true_eq, Bool.not_eq_true', decide_eq_false_iff_not, ite_not, not_true_eq_false, not_false_eq_true, reduceCtorEq, and_true, true_and, and_self, Int.reduceEq, ne_eq, gt_iff_lt, ge_iff_le, hl, hl2, h47, a1, a2, key0]
    · simp only [hq, if_false] at key0
      simp (config := { maxSteps := 4000000 }) only [Tryz.f38, go_sem, Nat.reduceBEq, Nat.reduceAdd, Nat.reduceSub, Nat.reduceEqDiff, Nat.reduceLeDiff, Nat.reduceMul, rgT, z_regionT, allocs, isv?, z_step, z_stepE, okDst, wantedA, evalOp, evalV, evalS, storeAt, look, ofV, ofC, putA, clearA, lookV, lookVs, lookParts, adrOk, baseAt, baseOf, loadAt, partA, binA, unA, resOf, mkRes, envOf, List.range, List.range.loop, evalBuiltin, liveW, regOf, startE, optN, mapGet, mapPut, orZero, keyOk, cellOk, decide_eq_true_eq, Bool.not_eq_true', decide_eq_false_iff_not, ite_not, not_true_eq_false, not_false_eq_true, reduceCtorEq, and_true, true_and, and_self, Int.reduceEq, ne_eq, gt_iff_lt, ge_iff_le, hl, hl2, h47, a1, a2, key0]
  · rw [if_neg a3]
    generalize mainErr ns m = q at *
    generalize ns.map nodeA = B at *
    generalize es.map edgeA = A at *
    simp (config := { maxSteps := 4000000 }) only [Tryz.f38, go_sem, Nat.reduceBEq, Nat.reduceAdd, Nat.reduceSub, Nat.reduceEqDiff, Nat.reduceLeDiff, Nat.reduceMul, rgT, z_regionT, allocs, isv?, z_step, z_stepE, okDst, wantedA, evalOp, evalV, evalS, storeAt, look, ofV, ofC, putA, clearA, lookV, lookVs, lookParts, adrOk, baseAt, baseOf, loadAt, partA, binA, unA, resOf, mkRes, envOf, List.range, List.range.loop, evalBuiltin, liveW, regOf, startE, optN, mapGet, mapPut, orZero, keyOk, cellOk, decide_eq_true_eq, Bool.not_eq_true', decide_eq_false_iff_not, ite_not, not_true_eq_false, not_false_eq_true, reduceCtorEq, and_true, true_and, and_self, Int.reduceEq, ne_eq, gt_iff_lt, ge_iff_le, hl, hl2, h47, a1, a2, a3]

end Go.Can
