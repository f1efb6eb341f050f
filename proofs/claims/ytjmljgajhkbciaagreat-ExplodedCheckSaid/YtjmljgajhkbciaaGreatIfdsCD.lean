/- Contracts: the reference's check of the nodes. Contracts: the reference's check of the nodes and the main node. -/
import Derived.Test.YtjmljgajhkbciaaGreatIfdsD
import Derived.Test.YtjmljgajhkbciaaGreatIfdsC4
set_option linter.unusedSimpArgs false
set_option linter.unusedVariables false
namespace Go.Can
open Go Go.Proofs

theorem c64' {σ : St} {base : Nat} {a1 a2 a3 b1 b2 b3 : Int} : callL Tryz.prog cfI 82 [.agg [.int .i64 a1, .int .i64 a2, .int .i64 a3], .agg [.int .i64 b1, .int .i64 b2, .int .i64 b3]] σ base = some (.bool (ltN (a1, a2, a3) (b1, b2, b3)), σ) := c64 (a := (a1, a2, a3)) (b := (b1, b2, b3))

theorem prevN_at2 {ns : List ND} {i : Nat} (hlen : ns.length < 2^63) (hi : i < ns.length) (hz : ¬ i = 0) :
    ∃ q1 q2 q3, nAt ns (i - 1) = (q1, q2, q3) ∧ (ns.map nodeA)[(IntKind.i64.wrap ((i : Int) - 1)).toNat]? = some (.agg [.int .i64 q1, .int .i64 q2, .int .i64 q3]) ∧ (0 ≤ IntKind.i64.wrap ((i : Int) - 1) ∧ IntKind.i64.wrap ((i : Int) - 1) < (ns.length : Int)) := by
  have hw : IntKind.i64.wrap ((i : Int) - 1) = ((i - 1 : Nat) : Int) := by rw [wrap_i64] <;> omega
  have h1 : i - 1 < ns.length := by omega
  obtain ⟨⟨q1, q2, q3⟩, _, h2, h3⟩ := drop_at nodeA h1
  refine ⟨q1, q2, q3, by unfold nAt; rw [List.getD_eq_getElem?_getD, h3]; rfl, ?_, ?_⟩
  · rw [hw, Int.toNat_natCast, h2]; rfl
  · rw [hw]; omega

set_option maxRecDepth 100000 in
set_option maxHeartbeats 16000000 in
theorem loop47 {σ : St} {fn : Bool} {ev : AV} {ns : List ND} {m : Int} (hlen : ns.length < 2^63) : ∀ n (i : Nat), i + n = ns.length →
    loopM Tryz.prog cfI 63 σ.length (loopOf Tryz.f63 2) (envS 120 [(1, .var [.list fn 3 (ns.map nodeA), ev, .int .i64 m]), (3, .val (.int .i64 i))], σ) =
    if firstE (nodeAt ns) n i = 0 then some (.exit 0, envS 120 [(1, .var [.list fn 3 (ns.map nodeA), ev, .int .i64 m])], σ)
    else some (.ret, envS 120 [(2, .val (.int .i64 (firstE (nodeAt ns) n i)))], σ) := by
  have hl : lenS (.list fn 3 (ns.map nodeA)) = some ns.length := by simp [lenS]
  intro n
  induction n with
  | zero =>
    intro i hi
    have hi' : ¬ ((i : Int) < ns.length) := by omega
    rw [loopM_step (by kernel_rfl)]
    simp only [loopOf, findLoop, regOf, Option.getD, envOf, List.range, List.range.loop, go_sem, Nat.reduceBEq, Nat.reduceEqDiff, Option.some.injEq, reduceCtorEq, envS, Tryz.f63]
    generalize ns.map nodeA = A at *
    simp only [go_sem, Nat.reduceBEq, Nat.reduceAdd, Nat.reduceSub, Nat.reduceEqDiff, Nat.reduceLeDiff, Nat.reduceMul, rgT, z_regionT, allocs, isv?, z_step, z_stepE, okDst, wantedA, evalOp, evalV, evalS, storeAt, look, ofV, ofC, putA, clearA, lookV, lookVs, lookParts, adrOk, baseAt, baseOf, loadAt, partA, binA, unA, resOf, mkRes, envOf, List.range, List.range.loop, evalBuiltin, liveW, regOf, startE, optN, mapGet, mapPut, orZero, keyOk, cellOk, decide_eq_true_eq, Bool.not_eq_true', decide_eq_false_iff_not, ite_not, not_true_eq_false, not_false_eq_true, reduceCtorEq, and_true, true_and, and_self, envS, hl, hi', firstE, if_true]
  | succ n ih =>
    intro i hi
    have hlt : i < ns.length := by omega
    obtain ⟨⟨y1, y2, y3⟩, _, hel, hget⟩ := drop_at nodeA hlt
    have hw := w_inc hlt (by omega)
    have hlt' : (i : Int) < (ns.length : Int) := by omega
    have h0i : (0 : Int) ≤ (i : Int) := by omega
    have ih' := ih (i + 1) (by omega)
    have heq : nAt ns i = (y1, y2, y3) := by unfold nAt; rw [List.getD_eq_getElem?_getD, hget]; rfl
    obtain ⟨p, hpd⟩ : ∃ p, p = if i = 0 then none else some (nAt ns (i - 1)) := ⟨_, rfl⟩
    have hnA : nodeAt ns i = nodeErr p (y1, y2, y3) := by unfold nodeAt; rw [heq, hpd]
    rw [loopM_step (by kernel_rfl)]
    simp only [loopOf, findLoop, regOf, Option.getD, envOf, List.range, List.range.loop, go_sem, Nat.reduceBEq, Nat.reduceEqDiff, Option.some.injEq, reduceCtorEq, envS, Tryz.f63] at ih' ⊢
    unfold firstE
    have hpq := fun hz => prevN_at2 (ns := ns) hlen hlt hz
    replace hel : (ns.map nodeA)[i]? = some (.agg [.int .i64 y1, .int .i64 y2, .int .i64 y3]) := hel
    clear ih hget heq
    generalize ns.map nodeA = A at *
    by_cases a1 : y2 < 1
    · have he : nodeErr p (y1, y2, y3) = 12 := by unfold nodeErr; simp only; repeat' split; all_goals first | rfl | omega
      have hne : ¬ ((12 : Int) = 0) := by decide
      rw [hnA, he]
      simp only [hne, if_false]
      simp (config := { maxSteps := 4000000 }) only [go_sem, Nat.reduceBEq, Nat.reduceAdd, Nat.reduceSub, Nat.reduceEqDiff, Nat.reduceLeDiff, Nat.reduceMul, rgT, z_regionT, allocs, isv?, z_step, z_stepE, okDst, wantedA, evalOp, evalV, evalS, storeAt, look, ofV, ofC, putA, clearA, lookV, lookVs, lookParts, adrOk, baseAt, baseOf, loadAt, partA, binA, unA, resOf, mkRes, envOf, List.range, List.range.loop, evalBuiltin, liveW, regOf, startE, optN, mapGet, mapPut, orZero, keyOk, cellOk, decide_eq_true_eq, Bool.not_eq_true', decide_eq_false_iff_not, ite_not, not_true_eq_false, not_false_eq_true, reduceCtorEq, and_true, true_and, and_self, Int.reduceLT, Int.reduceLE, Int.reduceEq, envS, hlt', h0i, hl, hel, hw, gt_iff_lt, ge_iff_le, a1]
    by_cases a2 : 4 < y2
    · have he : nodeErr p (y1, y2, y3) = 12 := by unfold nodeErr; simp only; repeat' split; all_goals first | rfl | omega
      have hne : ¬ ((12 : Int) = 0) := by decide
      rw [hnA, he]
      simp only [hne, if_false]
      simp (config := { maxSteps := 4000000 }) only [go_sem, Nat.reduceBEq, Nat.reduceAdd, Nat.reduceSub, Nat.reduceEqDiff, Nat.reduceLeDiff, Nat.reduceMul, rgT, z_regionT, allocs, isv?, z_step, z_stepE, okDst, wantedA, evalOp, evalV, evalS, storeAt, look, ofV, ofC, putA, clearA, lookV, lookVs, lookParts, adrOk, baseAt, baseOf, loadAt, partA, binA, unA, resOf, mkRes, envOf, List.range, List.range.loop, evalBuiltin, liveW, regOf, startE, optN, mapGet, mapPut, orZero, keyOk, cellOk, decide_eq_true_eq, Bool.not_eq_true', decide_eq_false_iff_not, ite_not, not_true_eq_false, not_false_eq_true, reduceCtorEq, and_true, true_and, and_self, Int.reduceLT, Int.reduceLE, Int.reduceEq, envS, hlt', h0i, hl, hel, hw, gt_iff_lt, ge_iff_le, a1, a2]
    by_cases a3 : y1 < 0
    · have he : nodeErr p (y1, y2, y3) = 4 := by unfold nodeErr; simp only; repeat' split; all_goals first | rfl | omega
      have hne : ¬ ((4 : Int) = 0) := by decide
      rw [hnA, he]
      simp only [hne, if_false]
      simp (config := { maxSteps := 4000000 }) only [go_sem, Nat.reduceBEq, Nat.reduceAdd, Nat.reduceSub, Nat.reduceEqDiff, Nat.reduceLeDiff, Nat.reduceMul, rgT, z_regionT, allocs, isv?, z_step, z_stepE, okDst, wantedA, evalOp, evalV, evalS, storeAt, look, ofV, ofC, putA, clearA, lookV, lookVs, lookParts, adrOk, baseAt, baseOf, loadAt, partA, binA, unA, resOf, mkRes, envOf, List.range, List.range.loop, evalBuiltin, liveW, regOf, startE, optN, mapGet, mapPut, orZero, keyOk, cellOk, decide_eq_true_eq, Bool.not_eq_true', decide_eq_false_iff_not, ite_not, not_true_eq_false, not_false_eq_true, reduceCtorEq, and_true, true_and, and_self, Int.reduceLT, Int.reduceLE, Int.reduceEq, envS, hlt', h0i, hl, hel, hw, gt_iff_lt, ge_iff_le, a1, a2, a3]
    by_cases k : y2 = 2
    · subst k
      by_cases a4 : y3 < 0
      · have he : nodeErr p (y1, 2, y3) = 4 := by unfold nodeErr; simp only; repeat' split; all_goals first | rfl | omega
        have hne : ¬ ((4 : Int) = 0) := by decide
        rw [hnA, he]
        simp only [hne, if_false]
        simp (config := { maxSteps := 4000000 }) only [go_sem, Nat.reduceBEq, Nat.reduceAdd, Nat.reduceSub, Nat.reduceEqDiff, Nat.reduceLeDiff, Nat.reduceMul, rgT, z_regionT, allocs, isv?, z_step, z_stepE, okDst, wantedA, evalOp, evalV, evalS, storeAt, look, ofV, ofC, putA, clearA, lookV, lookVs, lookParts, adrOk, baseAt, baseOf, loadAt, partA, binA, unA, resOf, mkRes, envOf, List.range, List.range.loop, evalBuiltin, liveW, regOf, startE, optN, mapGet, mapPut, orZero, keyOk, cellOk, decide_eq_true_eq, Bool.not_eq_true', decide_eq_false_iff_not, ite_not, not_true_eq_false, not_false_eq_true, reduceCtorEq, and_true, true_and, and_self, Int.reduceLT, Int.reduceLE, Int.reduceEq, envS, hlt', h0i, hl, hel, hw, gt_iff_lt, ge_iff_le, a3, a4]
      by_cases z : i = 0
      · have hp : p = none := by rw [hpd, if_pos z]
        have hz0 : ¬ (0 : Int) < (i : Int) := by omega
        · have he : nodeErr p (y1, 2, y3) = 0 := by rw [hp]; unfold nodeErr; simp only; repeat' split; all_goals first | rfl | omega | simp_all
          rw [hnA, he, if_pos rfl]
          simp (config := { maxSteps := 4000000 }) only [go_sem, Nat.reduceBEq, Nat.reduceAdd, Nat.reduceSub, Nat.reduceEqDiff, Nat.reduceLeDiff, Nat.reduceMul, rgT, z_regionT, allocs, isv?, z_step, z_stepE, okDst, wantedA, evalOp, evalV, evalS, storeAt, look, ofV, ofC, putA, clearA, lookV, lookVs, lookParts, adrOk, baseAt, baseOf, loadAt, partA, binA, unA, resOf, mkRes, envOf, List.range, List.range.loop, evalBuiltin, liveW, regOf, startE, optN, mapGet, mapPut, orZero, keyOk, cellOk, decide_eq_true_eq, Bool.not_eq_true', decide_eq_false_iff_not, ite_not, not_true_eq_false, not_false_eq_true, reduceCtorEq, and_true, true_and, and_self, Int.reduceLT, Int.reduceLE, Int.reduceEq, envS, hlt', h0i, hl, hel, hw, gt_iff_lt, ge_iff_le, a3, a4, hz0, ih']
      · obtain ⟨q1, q2, q3, hq, hqel, hqw⟩ := hpq z
        have hp : p = some (q1, q2, q3) := by rw [hpd, if_neg z, hq]
        have hz0 : (0 : Int) < (i : Int) := by omega
        by_cases hlt2 : ltN (q1, q2, q3) (y1, 2, y3) = true
        · have hc : ¬ cmpN (q1, q2, q3) (y1, 2, y3) ≥ 0 := fun h => by rw [cmpN_ge, hlt2] at h; cases h
          · have he : nodeErr p (y1, 2, y3) = 0 := by rw [hp]; unfold nodeErr; simp only; repeat' split; all_goals first | rfl | omega | simp_all
            rw [hnA, he, if_pos rfl]
            simp (config := { maxSteps := 4000000 }) only [go_sem, Nat.reduceBEq, Nat.reduceAdd, Nat.reduceSub, Nat.reduceEqDiff, Nat.reduceLeDiff, Nat.reduceMul, rgT, z_regionT, allocs, isv?, z_step, z_stepE, okDst, wantedA, evalOp, evalV, evalS, storeAt, look, ofV, ofC, putA, clearA, lookV, lookVs, lookParts, adrOk, baseAt, baseOf, loadAt, partA, binA, unA, resOf, mkRes, envOf, List.range, List.range.loop, evalBuiltin, liveW, regOf, startE, optN, mapGet, mapPut, orZero, keyOk, cellOk, decide_eq_true_eq, Bool.not_eq_true', decide_eq_false_iff_not, ite_not, not_true_eq_false, not_false_eq_true, reduceCtorEq, and_true, true_and, and_self, Int.reduceLT, Int.reduceLE, Int.reduceEq, envS, hlt', h0i, hl, hel, hw, gt_iff_lt, ge_iff_le, a3, a4, hz0, hqel, hqw, c64', hlt2, ih']
        · have hlt3 : ltN (q1, q2, q3) (y1, 2, y3) = false := Bool.eq_false_iff.2 hlt2
          have hc : cmpN (q1, q2, q3) (y1, 2, y3) ≥ 0 := cmpN_ge.2 hlt3
          · have he : nodeErr p (y1, 2, y3) = 13 := by rw [hp]; unfold nodeErr; simp only; repeat' split; all_goals first | rfl | omega
            have hne : ¬ ((13 : Int) = 0) := by decide
            rw [hnA, he]
            simp only [hne, if_false]
            simp (config := { maxSteps := 4000000 }) only [go_sem, Nat.reduceBEq, Nat.reduceAdd, Nat.reduceSub, Nat.reduceEqDiff, Nat.reduceLeDiff, Nat.reduceMul, rgT, z_regionT, allocs, isv?, z_step, z_stepE, okDst, wantedA, evalOp, evalV, evalS, storeAt, look, ofV, ofC, putA, clearA, lookV, lookVs, lookParts, adrOk, baseAt, baseOf, loadAt, partA, binA, unA, resOf, mkRes, envOf, List.range, List.range.loop, evalBuiltin, liveW, regOf, startE, optN, mapGet, mapPut, orZero, keyOk, cellOk, decide_eq_true_eq, Bool.not_eq_true', decide_eq_false_iff_not, ite_not, not_true_eq_false, not_false_eq_true, reduceCtorEq, and_true, true_and, and_self, Int.reduceLT, Int.reduceLE, Int.reduceEq, envS, hlt', h0i, hl, hel, hw, gt_iff_lt, ge_iff_le, a3, a4, hz0, hqel, hqw, c64', hlt3]
    by_cases a5 : y3 = -1
    · subst a5
      by_cases z : i = 0
      · have hp : p = none := by rw [hpd, if_pos z]
        have hz0 : ¬ (0 : Int) < (i : Int) := by omega
        · have he : nodeErr p (y1, y2, -1) = 0 := by rw [hp]; unfold nodeErr; simp only; repeat' split; all_goals first | rfl | omega | simp_all
          rw [hnA, he, if_pos rfl]
          simp (config := { maxSteps := 4000000 }) only [go_sem, Nat.reduceBEq, Nat.reduceAdd, Nat.reduceSub, Nat.reduceEqDiff, Nat.reduceLeDiff, Nat.reduceMul, rgT, z_regionT, allocs, isv?, z_step, z_stepE, okDst, wantedA, evalOp, evalV, evalS, storeAt, look, ofV, ofC, putA, clearA, lookV, lookVs, lookParts, adrOk, baseAt, baseOf, loadAt, partA, binA, unA, resOf, mkRes, envOf, List.range, List.range.loop, evalBuiltin, liveW, regOf, startE, optN, mapGet, mapPut, orZero, keyOk, cellOk, decide_eq_true_eq, Bool.not_eq_true', decide_eq_false_iff_not, ite_not, not_true_eq_false, not_false_eq_true, reduceCtorEq, and_true, true_and, and_self, Int.reduceLT, Int.reduceLE, Int.reduceEq, envS, hlt', h0i, hl, hel, hw, gt_iff_lt, ge_iff_le, a1, a2, a3, k, hz0, ih']
      · obtain ⟨q1, q2, q3, hq, hqel, hqw⟩ := hpq z
        have hp : p = some (q1, q2, q3) := by rw [hpd, if_neg z, hq]
        have hz0 : (0 : Int) < (i : Int) := by omega
        by_cases hlt2 : ltN (q1, q2, q3) (y1, y2, -1) = true
        · have hc : ¬ cmpN (q1, q2, q3) (y1, y2, -1) ≥ 0 := fun h => by rw [cmpN_ge, hlt2] at h; cases h
          · have he : nodeErr p (y1, y2, -1) = 0 := by rw [hp]; unfold nodeErr; simp only; repeat' split; all_goals first | rfl | omega | simp_all
            rw [hnA, he, if_pos rfl]
            simp (config := { maxSteps := 4000000 }) only [go_sem, Nat.reduceBEq, Nat.reduceAdd, Nat.reduceSub, Nat.reduceEqDiff, Nat.reduceLeDiff, Nat.reduceMul, rgT, z_regionT, allocs, isv?, z_step, z_stepE, okDst, wantedA, evalOp, evalV, evalS, storeAt, look, ofV, ofC, putA, clearA, lookV, lookVs, lookParts, adrOk, baseAt, baseOf, loadAt, partA, binA, unA, resOf, mkRes, envOf, List.range, List.range.loop, evalBuiltin, liveW, regOf, startE, optN, mapGet, mapPut, orZero, keyOk, cellOk, decide_eq_true_eq, Bool.not_eq_true', decide_eq_false_iff_not, ite_not, not_true_eq_false, not_false_eq_true, reduceCtorEq, and_true, true_and, and_self, Int.reduceLT, Int.reduceLE, Int.reduceEq, envS, hlt', h0i, hl, hel, hw, gt_iff_lt, ge_iff_le, a1, a2, a3, k, hz0, hqel, hqw, c64', hlt2, ih']
        · have hlt3 : ltN (q1, q2, q3) (y1, y2, -1) = false := Bool.eq_false_iff.2 hlt2
          have hc : cmpN (q1, q2, q3) (y1, y2, -1) ≥ 0 := cmpN_ge.2 hlt3
          · have he : nodeErr p (y1, y2, -1) = 13 := by rw [hp]; unfold nodeErr; simp only; repeat' split; all_goals first | rfl | omega
            have hne : ¬ ((13 : Int) = 0) := by decide
            rw [hnA, he]
            simp only [hne, if_false]
            simp (config := { maxSteps := 4000000 }) only [go_sem, Nat.reduceBEq, Nat.reduceAdd, Nat.reduceSub, Nat.reduceEqDiff, Nat.reduceLeDiff, Nat.reduceMul, rgT, z_regionT, allocs, isv?, z_step, z_stepE, okDst, wantedA, evalOp, evalV, evalS, storeAt, look, ofV, ofC, putA, clearA, lookV, lookVs, lookParts, adrOk, baseAt, baseOf, loadAt, partA, binA, unA, resOf, mkRes, envOf, List.range, List.range.loop, evalBuiltin, liveW, regOf, startE, optN, mapGet, mapPut, orZero, keyOk, cellOk, decide_eq_true_eq, Bool.not_eq_true', decide_eq_false_iff_not, ite_not, not_true_eq_false, not_false_eq_true, reduceCtorEq, and_true, true_and, and_self, Int.reduceLT, Int.reduceLE, Int.reduceEq, envS, hlt', h0i, hl, hel, hw, gt_iff_lt, ge_iff_le, a1, a2, a3, k, hz0, hqel, hqw, c64', hlt3]
    · have he : nodeErr p (y1, y2, y3) = 4 := by unfold nodeErr; simp only; repeat' split; all_goals first | rfl | omega
      have hne : ¬ ((4 : Int) = 0) := by decide
      rw [hnA, he]
      simp only [hne, if_false]
      simp (config := { maxSteps := 4000000 }) only [go_sem, Nat.reduceBEq, Nat.reduceAdd, Nat.reduceSub, Nat.reduceEqDiff, Nat.reduceLeDiff, Nat.reduceMul, rgT, z_regionT, allocs, isv?, z_step, z_stepE, okDst, wantedA, evalOp, evalV, evalS, storeAt, look, ofV, ofC, putA, clearA, lookV, lookVs, lookParts, adrOk, baseAt, baseOf, loadAt, partA, binA, unA, resOf, mkRes, envOf, List.range, List.range.loop, evalBuiltin, liveW, regOf, startE, optN, mapGet, mapPut, orZero, keyOk, cellOk, decide_eq_true_eq, Bool.not_eq_true', decide_eq_false_iff_not, ite_not, not_true_eq_false, not_false_eq_true, reduceCtorEq, and_true, true_and, and_self, Int.reduceLT, Int.reduceLE, Int.reduceEq, envS, hlt', h0i, hl, hel, hw, gt_iff_lt, ge_iff_le, a1, a2, a3, k, a5]

end Go.Can

namespace Go.Can
open Go Go.Proofs

set_option maxRecDepth 100000 in
set_option maxHeartbeats 16000000 in
theorem loop47b {σ : St} {fn fe : Bool} {ns : List ND} {es : List ED} {m : Int} (hlen : ns.length < 2^63) : ∀ n (i : Nat), i + n = ns.length →
    loopM Tryz.prog cfI 63 σ.length (loopOf Tryz.f63 12) (envS 120 [(1, .var [.list fn 3 (ns.map nodeA), .list fe 4 (es.map edgeA), .int .i64 m]), (5, .val (.int .i64 i))], σ) =
    if (ns.drop i).all (fun n => has3 ns n.1) = true then some (.exit 3, envS 120 [(1, .var [.list fn 3 (ns.map nodeA), .list fe 4 (es.map edgeA), .int .i64 m])], σ)
    else some (.ret, envS 120 [(2, .val (.int .i64 1))], σ) := by
  have hl : lenS (.list fn 3 (ns.map nodeA)) = some ns.length := by simp [lenS]
  intro n
  induction n with
  | zero =>
    intro i hi
    have hi' : ¬ ((i : Int) < ns.length) := by omega
    have hd : ns.drop i = [] := List.drop_eq_nil_of_le (by omega)
    rw [loopM_step (by kernel_rfl), hd]
    simp only [loopOf, findLoop, regOf, Option.getD, envOf, List.range, List.range.loop, go_sem, Nat.reduceBEq, Nat.reduceEqDiff, Option.some.injEq, reduceCtorEq, envS, Tryz.f63]
    generalize ns.map nodeA = A at *
    simp only [go_sem, Nat.reduceBEq, Nat.reduceAdd, Nat.reduceSub, Nat.reduceEqDiff, Nat.reduceLeDiff, Nat.reduceMul, rgT, z_regionT, allocs, isv?, z_step, z_stepE, okDst, wantedA, evalOp, evalV, evalS, storeAt, look, ofV, ofC, putA, clearA, lookV, lookVs, lookParts, adrOk, baseAt, baseOf, loadAt, partA, binA, unA, resOf, mkRes, envOf, List.range, List.range.loop, evalBuiltin, liveW, regOf, startE, optN, mapGet, mapPut, orZero, keyOk, cellOk, decide_eq_true_eq, Bool.not_eq_true', decide_eq_false_iff_not, ite_not, not_true_eq_false, not_false_eq_true, reduceCtorEq, and_true, true_and, and_self, envS, hl, hi', List.all_nil, if_true]
  | succ n ih =>
    intro i hi
    have hlt : i < ns.length := by omega
    obtain ⟨⟨y1, y2, y3⟩, hd, hel, _⟩ := drop_at nodeA hlt
    have hw := w_inc hlt (by omega)
    have hlt' : (i : Int) < (ns.length : Int) := by omega
    have h0i : (0 : Int) ≤ (i : Int) := by omega
    have ih' := ih (i + 1) (by omega)
    have h65 := fun b => c65 (σ := σ) (base := b) (m := m) (f := y1) (Sl.list (f := fn) (ns.map nodeA)) (ev := .list fe 4 (es.map edgeA)) rfl hlen
    have h66 := fun b => c66 (σ := σ) (base := b) (m := m) (f := y1) (Sl.list (f := fn) (ns.map nodeA)) (ev := .list fe 4 (es.map edgeA)) rfl hlen
    rw [loopM_step (by kernel_rfl), hd, List.all_cons]
    simp only [loopOf, findLoop, regOf, Option.getD, envOf, List.range, List.range.loop, go_sem, Nat.reduceBEq, Nat.reduceEqDiff, Option.some.injEq, reduceCtorEq, envS, Tryz.f63] at ih' ⊢
    replace hel : (ns.map nodeA)[i]? = some (.agg [.int .i64 y1, .int .i64 y2, .int .i64 y3]) := hel
    clear ih hd
    unfold has3 at ih' ⊢
    generalize kindN y1 1 ns 0 = k1 at *
    generalize kindN y1 3 ns 0 = k3 at *
    generalize kindN y1 4 ns 0 = k4 at *
    generalize (ns.drop (i + 1)).all _ = t at *
    generalize ns.map nodeA = A at *
    generalize es.map edgeA = B at *
    by_cases a1 : k1 < 0
    · have : ¬ 0 ≤ k1 := by omega
      simp (config := { maxSteps := 4000000 }) only [go_sem, Nat.reduceBEq, Nat.reduceAdd, Nat.reduceSub, Nat.reduceEqDiff, Nat.reduceLeDiff, Nat.reduceMul, rgT, z_regionT, allocs, isv?, z_step, z_stepE, okDst, wantedA, evalOp, evalV, evalS, storeAt, look, ofV, ofC, putA, clearA, lookV, lookVs, lookParts, adrOk, baseAt, baseOf, loadAt, partA, binA, unA, resOf, mkRes, envOf, List.range, List.range.loop, evalBuiltin, liveW, regOf, startE, optN, mapGet, mapPut, orZero, keyOk, cellOk, decide_eq_true_eq, Bool.not_eq_true', decide_eq_false_iff_not, ite_not, not_true_eq_false, not_false_eq_true, reduceCtorEq, and_true, true_and, and_self, envS, hl, hlt', h0i, hel, hw, h65, h66, a1, this, decide_false, Bool.false_and, Bool.false_eq_true, if_false]
    have b1 : 0 ≤ k1 := by omega
    by_cases a3 : k3 < 0
    · have : ¬ 0 ≤ k3 := by omega
      simp (config := { maxSteps := 4000000 }) only [go_sem, Nat.reduceBEq, Nat.reduceAdd, Nat.reduceSub, Nat.reduceEqDiff, Nat.reduceLeDiff, Nat.reduceMul, rgT, z_regionT, allocs, isv?, z_step, z_stepE, okDst, wantedA, evalOp, evalV, evalS, storeAt, look, ofV, ofC, putA, clearA, lookV, lookVs, lookParts, adrOk, baseAt, baseOf, loadAt, partA, binA, unA, resOf, mkRes, envOf, List.range, List.range.loop, evalBuiltin, liveW, regOf, startE, optN, mapGet, mapPut, orZero, keyOk, cellOk, decide_eq_true_eq, Bool.not_eq_true', decide_eq_false_iff_not, ite_not, not_true_eq_false, not_false_eq_true, reduceCtorEq, and_true, true_and, and_self, envS, hl, hlt', h0i, hel, hw, h65, h66, a1, a3, this, decide_false, Bool.and_false, Bool.false_and, Bool.false_eq_true, if_false]
    have b3 : 0 ≤ k3 := by omega
    by_cases a4 : k4 < 0
    · have : ¬ 0 ≤ k4 := by omega
      simp (config := { maxSteps := 4000000 }) only [go_sem, Nat.reduceBEq, Nat.reduceAdd, Nat.reduceSub, Nat.reduceEqDiff, Nat.reduceLeDiff, Nat.reduceMul, rgT, z_regionT, allocs, isv?, z_step, z_stepE, okDst, wantedA, evalOp, evalV, evalS, storeAt, look, ofV, ofC, putA, clearA, lookV, lookVs, lookParts, adrOk, baseAt, baseOf, loadAt, partA, binA, unA, resOf, mkRes, envOf, List.range, List.range.loop, evalBuiltin, liveW, regOf, startE, optN, mapGet, mapPut, orZero, keyOk, cellOk, decide_eq_true_eq, Bool.not_eq_true', decide_eq_false_iff_not, ite_not, not_true_eq_false, not_false_eq_true, reduceCtorEq, and_true, true_and, and_self, envS, hl, hlt', h0i, hel, hw, h65, h66, a1, a3, a4, this, decide_false, Bool.and_false, Bool.false_and, Bool.false_eq_true, if_false]
    have b4 : 0 ≤ k4 := by omega
    simp (config := { maxSteps := 4000000 }) only [go_sem, Nat.reduceBEq, Nat.reduceAdd, Nat.reduceSub, Nat.reduceEqDiff, Nat.reduceLeDiff, Nat.reduceMul, rgT, z_regionT, allocs, isv?, z_step, z_stepE, okDst, wantedA, evalOp, evalV, evalS, storeAt, look, ofV, ofC, putA, clearA, lookV, lookVs, lookParts, adrOk, baseAt, baseOf, loadAt, partA, binA, unA, resOf, mkRes, envOf, List.range, List.range.loop, evalBuiltin, liveW, regOf, startE, optN, mapGet, mapPut, orZero, keyOk, cellOk, decide_eq_true_eq, Bool.not_eq_true', decide_eq_false_iff_not, ite_not, not_true_eq_false, not_false_eq_true, reduceCtorEq, and_true, true_and, and_self, envS, hl, hlt', h0i, hel, hw, h65, h66, a1, a3, a4, b1, b3, b4, ih', decide_true, Bool.true_and, Bool.and_self]

/-- The error of the nodes, and of the main node. -/
def mainErr (ns : List ND) (m : Int) : Int := if errNodes ns ≠ 0 then errNodes ns else if m < 0 ∨ m ≥ ns.length ∨ (nd ns m).2.1 ≠ 1 then 14 else 0

set_option maxRecDepth 100000 in
set_option maxHeartbeats 16000000 in
theorem c47 {σ : St} {base : Nat} {fn fe : Bool} {ns : List ND} {es : List ED} {m : Int} (hlen : ns.length < 2^63) :
    callL Tryz.prog cfI 63 [.agg [.list fn 3 (ns.map nodeA), .list fe 4 (es.map edgeA), .int .i64 m]] σ base = some (.int .i64 (mainErr ns m), σ) := by
  have hl : lenS (.list fn 3 (ns.map nodeA)) = some ns.length := by simp [lenS]
  have k1 := loop47 (σ := σ) (fn := fn) (ev := .list fe 4 (es.map edgeA)) (m := m) hlen ns.length 0 (by omega)
  have k2 := loop47b (σ := σ) (fn := fn) (fe := fe) (es := es) (m := m) hlen ns.length 0 (by omega)
  rw [show ((0 : Nat) : Int) = 0 from rfl] at k1 k2
  rw [List.drop_zero] at k2
  refine callL_pure (σ' := σ) (v := .int .i64 (mainErr ns m)) Tryz.func63 rfl (by kernel_rfl) rfl rfl (by simp) ?_ rfl
  rw [z_body]
  simp only [loopOf, findLoop, regOf, Option.getD, envOf, List.range, List.range.loop, go_sem, Nat.reduceBEq, Nat.reduceEqDiff, Option.some.injEq, reduceCtorEq, envS, Tryz.f63] at k1 k2
  unfold mainErr
  rw [errNodes_eq]
  by_cases h1 : firstE (nodeAt ns) ns.length 0 = 0
  · rw [if_pos h1]
    rw [if_pos h1] at k1
    by_cases h2 : (ns.all fun n => has3 ns n.1) = true
    · rw [if_pos h2] at k2
      rw [if_pos h2, if_neg (by simp)]
      by_cases a4 : m < 0
      · rw [if_pos (.inl a4)]
        generalize ns.map nodeA = B at *
        generalize es.map edgeA = A at *
        simp (config := { maxSteps := 4000000 }) only [Tryz.f63, go_sem, Nat.reduceBEq, Nat.reduceAdd, Nat.reduceSub, Nat.reduceEqDiff, Nat.reduceLeDiff, Nat.reduceMul, rgT, z_regionT, allocs, isv?, z_step, z_stepE, okDst, wantedA, evalOp, evalV, evalS, storeAt, look, ofV, ofC, putA, clearA, lookV, lookVs, lookParts, adrOk, baseAt, baseOf, loadAt, partA, binA, unA, resOf, mkRes, envOf, List.range, List.range.loop, evalBuiltin, liveW, regOf, startE, optN, mapGet, mapPut, orZero, keyOk, cellOk, decide_eq_true_eq, Bool.not_eq_true', decide_eq_false_iff_not, ite_not, not_true_eq_false, not_false_eq_true, reduceCtorEq, and_true, true_and, and_self, Int.reduceEq, ne_eq, gt_iff_lt, ge_iff_le, hl, k1, k2, a4]
      by_cases a5 : (ns.length : Int) ≤ m
      · rw [if_pos (.inr (.inl a5))]
        generalize ns.map nodeA = B at *
        generalize es.map edgeA = A at *
        simp (config := { maxSteps := 4000000 }) only [Tryz.f63, go_sem, Nat.reduceBEq, Nat.reduceAdd, Nat.reduceSub, Nat.reduceEqDiff, Nat.reduceLeDiff, Nat.reduceMul, rgT, z_regionT, allocs, isv?, z_step, z_stepE, okDst, wantedA, evalOp, evalV, evalS, storeAt, look, ofV, ofC, putA, clearA, lookV, lookVs, lookParts, adrOk, baseAt, baseOf, loadAt, partA, binA, unA, resOf, mkRes, envOf, List.range, List.range.loop, evalBuiltin, liveW, regOf, startE, optN, mapGet, mapPut, orZero, keyOk, cellOk, decide_eq_true_eq, Bool.not_eq_true', decide_eq_false_iff_not, ite_not, not_true_eq_false, not_false_eq_true, reduceCtorEq, and_true, true_and, and_self, Int.reduceEq, ne_eq, gt_iff_lt, ge_iff_le, hl, k1, k2, a4, a5]
      have hin : 0 ≤ m ∧ m < (ns.length : Int) := by omega
      obtain ⟨i1, i2⟩ := hin
      have hnd := nd_at (ns := ns) (i := m) ⟨i1, i2⟩
      by_cases a6 : (nd ns m).2.1 = 1
      · rw [if_neg (by rintro (h | h | h); exact a4 h; exact a5 h; exact h a6)]
        generalize nd ns m = x at *
        obtain ⟨x1, x2, x3⟩ := x
        simp only at a6
        subst a6
        replace hnd : (ns.map nodeA)[m.toNat]? = some (.agg [.int .i64 x1, .int .i64 1, .int .i64 x3]) := hnd
        generalize ns.map nodeA = B at *
        generalize es.map edgeA = A at *
        simp (config := { maxSteps := 4000000 }) only [Tryz.f63, go_sem, Nat.reduceBEq, Nat.reduceAdd, Nat.reduceSub, Nat.reduceEqDiff, Nat.reduceLeDiff, Nat.reduceMul, rgT, z_regionT, allocs, isv?, z_step, z_stepE, okDst, wantedA, evalOp, evalV, evalS, storeAt, look, ofV, ofC, putA, clearA, lookV, lookVs, lookParts, adrOk, baseAt, baseOf, loadAt, partA, binA, unA, resOf, mkRes, envOf, List.range, List.range.loop, evalBuiltin, liveW, regOf, startE, optN, mapGet, mapPut, orZero, keyOk, cellOk, decide_eq_true_eq, Bool.not_eq_true', decide_eq_false_iff_not, ite_not, not_true_eq_false, not_false_eq_true, reduceCtorEq, and_true, true_and, and_self, Int.reduceEq, ne_eq, gt_iff_lt, ge_iff_le, hl, k1, k2, a4, a5, hnd, i1, i2]
      · rw [if_pos (.inr (.inr a6))]
        generalize nd ns m = x at *
        obtain ⟨x1, x2, x3⟩ := x
        simp only at a6
        replace hnd : (ns.map nodeA)[m.toNat]? = some (.agg [.int .i64 x1, .int .i64 x2, .int .i64 x3]) := hnd
        generalize ns.map nodeA = B at *
        generalize es.map edgeA = A at *
        simp (config := { maxSteps := 4000000 }) only [Tryz.f63, go_sem, Nat.reduceBEq, Nat.reduceAdd, Nat.reduceSub, Nat.reduceEqDiff, Nat.reduceLeDiff, Nat.reduceMul, rgT, z_regionT, allocs, isv?, z_step, z_stepE, okDst, wantedA, evalOp, evalV, evalS, storeAt, look, ofV, ofC, putA, clearA, lookV, lookVs, lookParts, adrOk, baseAt, baseOf, loadAt, partA, binA, unA, resOf, mkRes, envOf, List.range, List.range.loop, evalBuiltin, liveW, regOf, startE, optN, mapGet, mapPut, orZero, keyOk, cellOk, decide_eq_true_eq, Bool.not_eq_true', decide_eq_false_iff_not, ite_not, not_true_eq_false, not_false_eq_true, reduceCtorEq, and_true, true_and, and_self, Int.reduceEq, ne_eq, gt_iff_lt, ge_iff_le, hl, k1, k2, a4, a5, a6, hnd, i1, i2]
    · rw [if_neg h2] at k2
      rw [if_neg h2, if_pos (by decide)]
      generalize ns.map nodeA = B at *
      generalize es.map edgeA = A at *
      simp (config := { maxSteps := 4000000 }) only [Tryz.f63, go_sem, Nat.reduceBEq, Nat.reduceAdd, Nat.reduceSub, Nat.reduceEqDiff, Nat.reduceLeDiff, Nat.reduceMul, rgT, z_regionT, allocs, isv?, z_step, z_stepE, okDst, wantedA, evalOp, evalV, evalS, storeAt, look, ofV, ofC, putA, clearA, lookV, lookVs, lookParts, adrOk, baseAt, baseOf, loadAt, partA, binA, unA, resOf, mkRes, envOf, List.range, List.range.loop, evalBuiltin, liveW, regOf, startE, optN, mapGet, mapPut, orZero, keyOk, cellOk, decide_eq_true_eq, Bool.not_eq_true', decide_eq_false_iff_not, ite_not, not_true_eq_false, not_false_eq_true, reduceCtorEq, and_true, true_and, and_self, Int.reduceEq, ne_eq, gt_iff_lt, ge_iff_le, hl, k1, k2]
  · rw [if_neg h1, if_pos h1]
    rw [if_neg h1] at k1
    generalize firstE (nodeAt ns) ns.length 0 = q at *
    generalize ns.map nodeA = B at *
    generalize es.map edgeA = A at *
    simp (config := { maxSteps := 4000000 }) only [Tryz.f63, go_sem, Nat.reduceBEq, Nat.reduceAdd, Nat.reduceSub, Nat.reduceEqDiff, Nat.reduceLeDiff, Nat.reduceMul, rgT, z_regionT, allocs, isv?, z_step, z_stepE, okDst, wantedA, evalOp, evalV, evalS, storeAt, look, ofV, ofC, putA, clearA, lookV, lookVs, lookParts, adrOk, baseAt, baseOf, loadAt, partA, binA, unA, resOf, mkRes, envOf, List.range, List.range.loop, evalBuiltin, liveW, regOf, startE, optN, mapGet, mapPut, orZero, keyOk, cellOk, decide_eq_true_eq, Bool.not_eq_true', decide_eq_false_iff_not, ite_not, not_true_eq_false, not_false_eq_true, reduceCtorEq, and_true, true_and, and_self, Int.reduceEq, ne_eq, gt_iff_lt, ge_iff_le, hl, k1]

end Go.Can
