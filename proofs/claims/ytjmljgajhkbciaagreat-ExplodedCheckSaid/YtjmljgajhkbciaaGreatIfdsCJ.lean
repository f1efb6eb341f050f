/- Contracts: the reference's Check of a problem. -/
import Derived.Test.YtjmljgajhkbciaaGreatIfdsCI
import Derived.Test.YtjmljgajhkbciaaGreatIfdsCF
import Derived.Test.YtjmljgajhkbciaaGreatIfdsCH
set_option linter.unusedSimpArgs false
set_option linter.unusedVariables false
namespace Go.Can
open Go Go.Proofs

theorem c25' {σ : St} {base : Nat} {a1 a2 b1 b2 : Int} : callL Tryz.prog cfI 40 [.agg [.int .i64 a1, .int .i64 a2], .agg [.int .i64 b1, .int .i64 b2]] σ base = some (.bool (ltP (a1, a2) (b1, b2)), σ) := c25 (a := (a1, a2)) (b := (b1, b2))

set_option maxRecDepth 100000 in
set_option maxHeartbeats 16000000 in
theorem loop8a {σ : St} {ns : List ND} {es : List ED} {m facts : Int} {fl : List (List PD)} {sd : List PD} (hlen : fl.length < 2^63) : ∀ c (i : Nat), i + c = fl.length →
    loopM Tryz.prog cfI 18 σ.length (loopOf Tryz.f18 9) (envS 97 [(1, .var (probC ns es m facts fl sd)), (4, .val (.int .i64 i))], σ) =
    if firstE (fun i => flowErr (fl.getD i []) facts) c i = 0 then some (.exit 0, envS 97 [(1, .var (probC ns es m facts fl sd))], σ) else some (.ret, envS 97 [(2, .val (.int .i64 (firstE (fun i => flowErr (fl.getD i []) facts) c i)))], σ) := by
  have hl : lenS (.list false 1 (fl.map flA)) = some fl.length := by simp [lenS]
  intro c
  induction c with
  | zero =>
    intro i hi
    have hi' : ¬ ((i : Int) < fl.length) := by omega
    rw [loopM_step (by kernel_rfl)]
    simp only [loopOf, findLoop, regOf, Option.getD, envOf, List.range, List.range.loop, go_sem, Nat.reduceBEq, Nat.reduceEqDiff, Option.some.injEq, reduceCtorEq, envS, Tryz.f18, probC]
    generalize fl.map flA = A at *
    simp only [go_sem, Nat.reduceBEq, Nat.reduceAdd, Nat.reduceSub, Nat.reduceEqDiff, Nat.reduceLeDiff, Nat.reduceMul, rgT, z_regionT, allocs, isv?, z_step, z_stepE, okDst, wantedA, evalOp, evalV, evalS, storeAt, look, ofV, ofC, putA, clearA, lookV, lookVs, lookParts, adrOk, baseAt, baseOf, loadAt, partA, binA, unA, resOf, mkRes, envOf, List.range, List.range.loop, evalBuiltin, liveW, regOf, startE, optN, mapGet, mapPut, orZero, keyOk, cellOk, decide_eq_true_eq, Bool.not_eq_true', decide_eq_false_iff_not, ite_not, not_true_eq_false, not_false_eq_true, reduceCtorEq, and_true, true_and, and_self, envS, hl, hi', firstE, if_true]
  | succ c ih =>
    intro i hi
    have hlt : i < fl.length := by omega
    obtain ⟨y, _, hel, hget⟩ := drop_at flA hlt
    have heq : fl.getD i [] = y := by rw [List.getD_eq_getElem?_getD, hget]; rfl
    have hw := w_inc hlt (by omega)
    have h0i : (0 : Int) ≤ (i : Int) := by omega
    have hlt' : (i : Int) < (fl.length : Int) := by omega
    have ih' := ih (i + 1) (by omega)
    have hf := fun b => c15 (σ := σ) (base := b) (fl := false) (l := y) (n := facts)
    rw [loopM_step (by kernel_rfl)]
    simp only [loopOf, findLoop, regOf, Option.getD, envOf, List.range, List.range.loop, go_sem, Nat.reduceBEq, Nat.reduceEqDiff, Option.some.injEq, reduceCtorEq, envS, Tryz.f18, probC] at ih' ⊢
    unfold firstE
    simp only [heq]
    replace hel : (fl.map flA)[i]? = some (.list false 2 (y.map pairA)) := hel
    clear ih hget
    generalize flowErr y facts = q at *
    generalize fl.map flA = A at *
    generalize y.map pairA = Y at *
    by_cases hq : q = 0
    · subst hq
      simp only [if_true]
      simp (config := { maxSteps := 4000000 }) only [go_sem, Nat.reduceBEq, Nat.reduceAdd, Nat.reduceSub, Nat.reduceEqDiff, Nat.reduceLeDiff, Nat.reduceMul, rgT, z_regionT, allocs, isv?, z_step, z_stepE, okDst, wantedA, evalOp, evalV, evalS, storeAt, look, ofV, ofC, putA, clearA, lookV, lookVs, lookParts, adrOk, baseAt, baseOf, loadAt, partA, binA, unA, resOf, mkRes, envOf, List.range, List.range.loop, evalBuiltin, liveW, regOf, startE, optN, mapGet, mapPut, orZero, keyOk, cellOk, decide_eq_true_eq, Bool.not_eq_true', decide_eq_false_iff_not, ite_not, not_true_eq_false, not_false_eq_true, reduceCtorEq, and_true, true_and, and_self, Int.reduceEq, ne_eq, envS, hlt', h0i, hl, hel, hw, hf, ih']
    · simp only [hq, if_false]
      simp (config := { maxSteps := 4000000 }) only [go_sem, Nat.reduceBEq, Nat.reduceAdd, Nat.reduceSub, Nat.reduceEqDiff, Nat.reduceLeDiff, Nat.reduceMul, rgT, z_regionT, allocs, isv?, z_step, z_stepE, okDst, wantedA, evalOp, evalV, evalS, storeAt, look, ofV, ofC, putA, clearA, lookV, lookVs, lookParts, adrOk, baseAt, baseOf, loadAt, partA, binA, unA, resOf, mkRes, envOf, List.range, List.range.loop, evalBuiltin, liveW, regOf, startE, optN, mapGet, mapPut, orZero, keyOk, cellOk, decide_eq_true_eq, Bool.not_eq_true', decide_eq_false_iff_not, ite_not, not_true_eq_false, not_false_eq_true, reduceCtorEq, and_true, true_and, and_self, ne_eq, envS, hlt', h0i, hl, hel, hw, hf, hq]

set_option maxRecDepth 100000 in
set_option maxHeartbeats 16000000 in
theorem loop8b {σ : St} {ns : List ND} {es : List ED} {m facts : Int} {fl : List (List PD)} {sd : List PD} (hlen : sd.length < 2^63) : ∀ c (i : Nat), i + c = sd.length →
    loopM Tryz.prog cfI 18 σ.length (loopOf Tryz.f18 15) (envS 97 [(1, .var (probC ns es m facts fl sd)), (6, .val (.int .i64 i))], σ) =
    if firstE (seedErr ns.length facts sd) c i = 0 then some (.exit 2, envS 97 [], σ) else some (.ret, envS 97 [(2, .val (.int .i64 (firstE (seedErr ns.length facts sd) c i)))], σ) := by
  have hl : lenS (.list false 2 (sd.map pairA)) = some sd.length := by simp [lenS]
  have hn : lenS (.list false 3 (ns.map nodeA)) = some ns.length := by simp [lenS]
  intro c
  induction c with
  | zero =>
    intro i hi
    have hi' : ¬ ((i : Int) < sd.length) := by omega
    rw [loopM_step (by kernel_rfl)]
    simp only [loopOf, findLoop, regOf, Option.getD, envOf, List.range, List.range.loop, go_sem, Nat.reduceBEq, Nat.reduceEqDiff, Option.some.injEq, reduceCtorEq, envS, Tryz.f18, probC]
    generalize sd.map pairA = A at *
    generalize ns.map nodeA = N at *
    simp only [go_sem, Nat.reduceBEq, Nat.reduceAdd, Nat.reduceSub, Nat.reduceEqDiff, Nat.reduceLeDiff, Nat.reduceMul, rgT, z_regionT, allocs, isv?, z_step, z_stepE, okDst, wantedA, evalOp, evalV, evalS, storeAt, look, ofV, ofC, putA, clearA, lookV, lookVs, lookParts, adrOk, baseAt, baseOf, loadAt, partA, binA, unA, resOf, mkRes, envOf, List.range, List.range.loop, evalBuiltin, liveW, regOf, startE, optN, mapGet, mapPut, orZero, keyOk, cellOk, decide_eq_true_eq, Bool.not_eq_true', decide_eq_false_iff_not, ite_not, not_true_eq_false, not_false_eq_true, reduceCtorEq, and_true, true_and, and_self, envS, hl, hi', firstE, if_true]
  | succ c ih =>
    intro i hi
    have hlt : i < sd.length := by omega
    obtain ⟨⟨y1, y2⟩, _, hel, hget⟩ := drop_at pairA hlt
    have heq : pAt sd i = (y1, y2) := by unfold pAt; rw [List.getD_eq_getElem?_getD, hget]; rfl
    have hw := w_inc hlt (by omega)
    have h0i : (0 : Int) ≤ (i : Int) := by omega
    have hlt' : (i : Int) < (sd.length : Int) := by omega
    have ih' := ih (i + 1) (by omega)
    have hpq := fun hz => prevP_at (l := sd) hlen hlt hz
    rw [loopM_step (by kernel_rfl)]
    simp only [loopOf, findLoop, regOf, Option.getD, envOf, List.range, List.range.loop, go_sem, Nat.reduceBEq, Nat.reduceEqDiff, Option.some.injEq, reduceCtorEq, envS, Tryz.f18, probC] at ih' ⊢
    unfold firstE
    replace hel : (sd.map pairA)[i]? = some (.agg [.int .i64 y1, .int .i64 y2]) := hel
    clear ih hget
    have n4 : ¬ ((4 : Int) = 0) := by decide
    have n13 : ¬ ((13 : Int) = 0) := by decide
    have hs : ∀ n : Int, seedErr n facts sd i = if y1 < 0 ∨ y1 ≥ n ∨ y2 < 1 ∨ y2 ≥ facts then 4 else if (decide (0 < i) && !ltP (pAt sd (i - 1)) (y1, y2)) = true then 13 else 0 := fun n => by unfold seedErr; rw [heq]
    generalize sd.map pairA = A at *
    generalize ns.map nodeA = N at *
    by_cases a1 : y1 < 0
    · have he : seedErr ns.length facts sd i = 4 := by rw [hs, if_pos (by omega)]
      rw [he]
      simp only [n4, if_false]
      simp (config := { maxSteps := 4000000 }) only [go_sem, Nat.reduceBEq, Nat.reduceAdd, Nat.reduceSub, Nat.reduceEqDiff, Nat.reduceLeDiff, Nat.reduceMul, rgT, z_regionT, allocs, isv?, z_step, z_stepE, okDst, wantedA, evalOp, evalV, evalS, storeAt, look, ofV, ofC, putA, clearA, lookV, lookVs, lookParts, adrOk, baseAt, baseOf, loadAt, partA, binA, unA, resOf, mkRes, envOf, List.range, List.range.loop, evalBuiltin, liveW, regOf, startE, optN, mapGet, mapPut, orZero, keyOk, cellOk, decide_eq_true_eq, Bool.not_eq_true', decide_eq_false_iff_not, ite_not, not_true_eq_false, not_false_eq_true, reduceCtorEq, and_true, true_and, and_self, envS, gt_iff_lt, ge_iff_le, hlt', h0i, hl, hn, hel, hw, a1]
    by_cases a2 : (ns.length : Int) ≤ y1
    · have he : seedErr ns.length facts sd i = 4 := by rw [hs, if_pos (by omega)]
      rw [he]
      simp only [n4, if_false]
      simp (config := { maxSteps := 4000000 }) only [go_sem, Nat.reduceBEq, Nat.reduceAdd, Nat.reduceSub, Nat.reduceEqDiff, Nat.reduceLeDiff, Nat.reduceMul, rgT, z_regionT, allocs, isv?, z_step, z_stepE, okDst, wantedA, evalOp, evalV, evalS, storeAt, look, ofV, ofC, putA, clearA, lookV, lookVs, lookParts, adrOk, baseAt, baseOf, loadAt, partA, binA, unA, resOf, mkRes, envOf, List.range, List.range.loop, evalBuiltin, liveW, regOf, startE, optN, mapGet, mapPut, orZero, keyOk, cellOk, decide_eq_true_eq, Bool.not_eq_true', decide_eq_false_iff_not, ite_not, not_true_eq_false, not_false_eq_true, reduceCtorEq, and_true, true_and, and_self, envS, gt_iff_lt, ge_iff_le, hlt', h0i, hl, hn, hel, hw, a1, a2]
    by_cases a3 : y2 < 1
    · have he : seedErr ns.length facts sd i = 4 := by rw [hs, if_pos (by omega)]
      rw [he]
      simp only [n4, if_false]
      simp (config := { maxSteps := 4000000 }) only [go_sem, Nat.reduceBEq, Nat.reduceAdd, Nat.reduceSub, Nat.reduceEqDiff, Nat.reduceLeDiff, Nat.reduceMul, rgT, z_regionT, allocs, isv?, z_step, z_stepE, okDst, wantedA, evalOp, evalV, evalS, storeAt, look, ofV, ofC, putA, clearA, lookV, lookVs, lookParts, adrOk, baseAt, baseOf, loadAt, partA, binA, unA, resOf, mkRes, envOf, List.range, List.range.loop, evalBuiltin, liveW, regOf, startE, optN, mapGet, mapPut, orZero, keyOk, cellOk, decide_eq_true_eq, Bool.not_eq_true', decide_eq_false_iff_not, ite_not, not_true_eq_false, not_false_eq_true, reduceCtorEq, and_true, true_and, and_self, envS, gt_iff_lt, ge_iff_le, hlt', h0i, hl, hn, hel, hw, a1, a2, a3]
    by_cases a4 : facts ≤ y2
    · have he : seedErr ns.length facts sd i = 4 := by rw [hs, if_pos (by omega)]
      rw [he]
      simp only [n4, if_false]
      simp (config := { maxSteps := 4000000 }) only [go_sem, Nat.reduceBEq, Nat.reduceAdd, Nat.reduceSub, Nat.reduceEqDiff, Nat.reduceLeDiff, Nat.reduceMul, rgT, z_regionT, allocs, isv?, z_step, z_stepE, okDst, wantedA, evalOp, evalV, evalS, storeAt, look, ofV, ofC, putA, clearA, lookV, lookVs, lookParts, adrOk, baseAt, baseOf, loadAt, partA, binA, unA, resOf, mkRes, envOf, List.range, List.range.loop, evalBuiltin, liveW, regOf, startE, optN, mapGet, mapPut, orZero, keyOk, cellOk, decide_eq_true_eq, Bool.not_eq_true', decide_eq_false_iff_not, ite_not, not_true_eq_false, not_false_eq_true, reduceCtorEq, and_true, true_and, and_self, envS, gt_iff_lt, ge_iff_le, hlt', h0i, hl, hn, hel, hw, a1, a2, a3, a4]
    have he : seedErr ns.length facts sd i = if (decide (0 < i) && !ltP (pAt sd (i - 1)) (y1, y2)) = true then 13 else 0 := by rw [hs, if_neg (by omega)]
    rw [he]
    by_cases z : i = 0
    · have hz : ¬ (0 : Int) < (i : Int) := by omega
      have hz2 : decide (0 < i) = false := decide_eq_false (by omega)
      rw [hz2]
      simp only [Bool.false_and, Bool.false_eq_true, if_false, if_true]
      simp (config := { maxSteps := 4000000 }) only [go_sem, Nat.reduceBEq, Nat.reduceAdd, Nat.reduceSub, Nat.reduceEqDiff, Nat.reduceLeDiff, Nat.reduceMul, rgT, z_regionT, allocs, isv?, z_step, z_stepE, okDst, wantedA, evalOp, evalV, evalS, storeAt, look, ofV, ofC, putA, clearA, lookV, lookVs, lookParts, adrOk, baseAt, baseOf, loadAt, partA, binA, unA, resOf, mkRes, envOf, List.range, List.range.loop, evalBuiltin, liveW, regOf, startE, optN, mapGet, mapPut, orZero, keyOk, cellOk, decide_eq_true_eq, Bool.not_eq_true', decide_eq_false_iff_not, ite_not, not_true_eq_false, not_false_eq_true, reduceCtorEq, and_true, true_and, and_self, envS, gt_iff_lt, ge_iff_le, hlt', h0i, hl, hn, hel, hw, a1, a2, a3, a4, hz, ih']
    · obtain ⟨q1, q2, hq, hqel, hqw⟩ := hpq z
      have hz : (0 : Int) < (i : Int) := by omega
      have hz2 : decide (0 < i) = true := decide_eq_true (by omega)
      rw [hz2, hq]
      by_cases ho : ltP (q1, q2) (y1, y2) = true
      · have hc : (0 ≤ orI [cmpI q1 y1, cmpI q2 y2]) = False := eq_false (fun h => by rw [← ge_iff_le, show orI [cmpI q1 y1, cmpI q2 y2] = cmpP (q1, q2) (y1, y2) from rfl, cmpP_ge, ho] at h; cases h)
        rw [ho]
        simp only [Bool.not_true, Bool.and_false, Bool.false_eq_true, if_false, if_true]
        simp (config := { maxSteps := 4000000 }) only [go_sem, Nat.reduceBEq, Nat.reduceAdd, Nat.reduceSub, Nat.reduceEqDiff, Nat.reduceLeDiff, Nat.reduceMul, rgT, z_regionT, allocs, isv?, z_step, z_stepE, okDst, wantedA, evalOp, evalV, evalS, storeAt, look, ofV, ofC, putA, clearA, lookV, lookVs, lookParts, adrOk, baseAt, baseOf, loadAt, partA, binA, unA, resOf, mkRes, envOf, List.range, List.range.loop, evalBuiltin, liveW, regOf, startE, optN, mapGet, mapPut, orZero, keyOk, cellOk, decide_eq_true_eq, Bool.not_eq_true', decide_eq_false_iff_not, ite_not, not_true_eq_false, not_false_eq_true, reduceCtorEq, and_true, true_and, and_self, envS, gt_iff_lt, ge_iff_le, hlt', h0i, hl, hn, hel, hw, a1, a2, a3, a4, hz, hqel, hqw, c25', hc, ho, ih']
      · have ho2 : ltP (q1, q2) (y1, y2) = false := Bool.eq_false_iff.2 ho
        have hc : (0 ≤ orI [cmpI q1 y1, cmpI q2 y2]) = True := eq_true (by rw [← ge_iff_le, show orI [cmpI q1 y1, cmpI q2 y2] = cmpP (q1, q2) (y1, y2) from rfl, cmpP_ge]; exact ho2)
        rw [ho2]
        simp only [Bool.not_false, Bool.and_true, if_true, n13, if_false]
        simp (config := { maxSteps := 4000000 }) only [go_sem, Nat.reduceBEq, Nat.reduceAdd, Nat.reduceSub, Nat.reduceEqDiff, Nat.reduceLeDiff, Nat.reduceMul, rgT, z_regionT, allocs, isv?, z_step, z_stepE, okDst, wantedA, evalOp, evalV, evalS, storeAt, look, ofV, ofC, putA, clearA, lookV, lookVs, lookParts, adrOk, baseAt, baseOf, loadAt, partA, binA, unA, resOf, mkRes, envOf, List.range, List.range.loop, evalBuiltin, liveW, regOf, startE, optN, mapGet, mapPut, orZero, keyOk, cellOk, decide_eq_true_eq, Bool.not_eq_true', decide_eq_false_iff_not, ite_not, not_true_eq_false, not_false_eq_true, reduceCtorEq, and_true, true_and, and_self, envS, gt_iff_lt, ge_iff_le, hlt', h0i, hl, hn, hel, hw, a1, a2, a3, a4, hz, hqel, hqw, c25', hc, ho2]

set_option maxRecDepth 100000 in
set_option maxHeartbeats 16000000 in
theorem c8 {σ : St} {base : Nat} {ns : List ND} {es : List ED} {m facts : Int} {fl : List (List PD)} {sd : List PD} (hfl : fl.length < 2^63) (hsd : sd.length < 2^63) :
    callL Tryz.prog cfI 18 [.agg (probC ns es m facts fl sd)] σ base = some (.int .i64 (checkErr ns es m facts fl sd), σ) := by
  have hl : lenS (.list false 1 (fl.map flA)) = some fl.length := by simp [lenS]
  have hl2 : lenS (.list false 2 (sd.map pairA)) = some sd.length := by simp [lenS]
  have hl3 : lenS (.list false 4 (es.map edgeA)) = some es.length := by simp [lenS]
  have hG := fun b => c24 (σ := σ) (base := b) (fn := false) (fe := false) (ns := ns) (es := es) (m := m)
  have k1 := loop8a (σ := σ) (ns := ns) (es := es) (m := m) (facts := facts) (fl := fl) (sd := sd) hfl fl.length 0 (by omega)
  have k2 := loop8b (σ := σ) (ns := ns) (es := es) (m := m) (facts := facts) (fl := fl) (sd := sd) hsd sd.length 0 (by omega)
  rw [show ((0 : Nat) : Int) = 0 from rfl] at k1 k2
  refine callL_pure (σ' := σ) (v := .int .i64 (checkErr ns es m facts fl sd)) Tryz.func18 rfl (by kernel_rfl) rfl rfl (by simp) ?_ rfl
  rw [z_body]
  simp only [loopOf, findLoop, regOf, Option.getD, envOf, List.range, List.range.loop, go_sem, Nat.reduceBEq, Nat.reduceEqDiff, Option.some.injEq, reduceCtorEq, envS, Tryz.f18, probC] at k1 k2 ⊢
  unfold checkErr
  generalize superErr ns es m = g at *
  by_cases a1 : g = 0
  · subst a1
    rw [if_neg (by simp)]
    by_cases a2 : facts < 1
    · rw [if_pos (by omega)]
      clear k1 k2
      generalize fl.map flA = A at *
      generalize sd.map pairA = B at *
      generalize es.map edgeA = D at *
      generalize ns.map nodeA = N at *
      simp (config := { maxSteps := 4000000 }) only [Tryz.f18, go_sem, Nat.reduceBEq, Nat.reduceAdd, Nat.reduceSub, Nat.reduceEqDiff, Nat.reduceLeDiff, Nat.reduceMul, rgT, z_regionT, allocs, isv?, z_step, z_stepE, okDst, wantedA, evalOp, evalV, evalS, storeAt, look, ofV, ofC, putA, clearA, lookV, lookVs, lookParts, adrOk, baseAt, baseOf, loadAt, partA, binA, unA, resOf, mkRes, envOf, List.range, List.range.loop, evalBuiltin, liveW, regOf, startE, optN, mapGet, mapPut, orZero, keyOk, cellOk, decide_eq_true_eq, Bool.not_eq_true', decide_eq_false_iff_not, ite_not, not_true_eq_false, not_false_eq_true, reduceCtorEq, and_true, true_and, and_self, Int.reduceEq, ne_eq, gt_iff_lt, hG, a2]
    by_cases a3 : 1024 < facts
    · rw [if_pos (by omega)]
      clear k1 k2
      generalize fl.map flA = A at *
      generalize sd.map pairA = B at *
      generalize es.map edgeA = D at *
      generalize ns.map nodeA = N at *
      simp (config := { maxSteps := 4000000 }) only [Tryz.f18, go_sem, Nat.reduceBEq, Nat.reduceAdd, Nat.reduceSub, Nat.reduceEqDiff, Nat.reduceLeDiff, Nat.reduceMul, rgT, z_regionT, allocs, isv?, z_step, z_stepE, okDst, wantedA, evalOp, evalV, evalS, storeAt, look, ofV, ofC, putA, clearA, lookV, lookVs, lookParts, adrOk, baseAt, baseOf, loadAt, partA, binA, unA, resOf, mkRes, envOf, List.range, List.range.loop, evalBuiltin, liveW, regOf, startE, optN, mapGet, mapPut, orZero, keyOk, cellOk, decide_eq_true_eq, Bool.not_eq_true', decide_eq_false_iff_not, ite_not, not_true_eq_false, not_false_eq_true, reduceCtorEq, and_true, true_and, and_self, Int.reduceEq, ne_eq, gt_iff_lt, hG, a2, a3]
    rw [if_neg (by omega)]
    by_cases a4 : (fl.length : Int) = es.length
    · have a4' : (((fl.length : Int) = (es.length : Int)) = True) := eq_true a4
      rw [if_neg (fun h => h a4)]
      by_cases a5 : firstE (fun i => flowErr (fl.getD i []) facts) fl.length 0 = 0
      · rw [if_pos a5] at k1
        rw [if_neg (fun h => h a5)]
        generalize firstE (seedErr ns.length facts sd) sd.length 0 = q at *
        clear a4
        generalize fl.map flA = A at *
        generalize sd.map pairA = B at *
        generalize es.map edgeA = D at *
        generalize ns.map nodeA = N at *
        by_cases a6 : q = 0
        · rw [if_pos a6] at k2
          subst a6
          simp (config := { maxSteps := 4000000 }) only [Tryz.f18, go_sem, Nat.reduceBEq, Nat.reduceAdd, Nat.reduceSub, Nat.reduceEqDiff, Nat.reduceLeDiff, Nat.reduceMul, rgT, z_regionT, allocs, isv?, z_step, z_stepE, okDst, wantedA, evalOp, evalV, evalS, storeAt, look, ofV, ofC, putA, clearA, lookV, lookVs, lookParts, adrOk, baseAt, baseOf, loadAt, partA, binA, unA, resOf, mkRes, envOf, List.range, List.range.loop, evalBuiltin, liveW, regOf, startE, optN, mapGet, mapPut, orZero, keyOk, cellOk, decide_eq_true_eq, Bool.not_eq_true', decide_eq_false_iff_not, ite_not, not_true_eq_false, not_false_eq_true, reduceCtorEq, and_true, true_and, and_self, Int.reduceEq, ne_eq, gt_iff_lt, hG, a2, a3, a4', hl, hl2, hl3, k1, k2]
        · rw [if_neg a6] at k2
          simp (config := { maxSteps := 4000000 }) only [Tryz.f18, go_sem, Nat.reduceBEq, Nat.reduceAdd, Nat.reduceSub, Nat.reduceEqDiff, Nat.reduceLeDiff, Nat.reduceMul, rgT, z_regionT, allocs, isv?, z_step, z_stepE, okDst, wantedA, evalOp, evalV, evalS, storeAt, look, ofV, ofC, putA, clearA, lookV, lookVs, lookParts, adrOk, baseAt, baseOf, loadAt, partA, binA, unA, resOf, mkRes, envOf, List.range, List.range.loop, evalBuiltin, liveW, regOf, startE, optN, mapGet, mapPut, orZero, keyOk, cellOk, decide_eq_true_eq, Bool.not_eq_true', decide_eq_false_iff_not, ite_not, not_true_eq_false, not_false_eq_true, reduceCtorEq, and_true, true_and, and_self, Int.reduceEq, ne_eq, gt_iff_lt, hG, a2, a3, a4', hl, hl2, hl3, k1, k2]
      · rw [if_neg a5] at k1
        rw [if_pos a5]
        generalize firstE (fun i => flowErr (fl.getD i []) facts) fl.length 0 = q at *
        clear a4 k2
        generalize fl.map flA = A at *
        generalize sd.map pairA = B at *
        generalize es.map edgeA = D at *
        generalize ns.map nodeA = N at *
        simp (config := { maxSteps := 4000000 }) only [Tryz.f18, go_sem, Nat.reduceBEq, Nat.reduceAdd, Nat.reduceSub, Nat.reduceEqDiff, Nat.reduceLeDiff, Nat.reduceMul, rgT, z_regionT, allocs, isv?, z_step, z_stepE, okDst, wantedA, evalOp, evalV, evalS, storeAt, look, ofV, ofC, putA, clearA, lookV, lookVs, lookParts, adrOk, baseAt, baseOf, loadAt, partA, binA, unA, resOf, mkRes, envOf, List.range, List.range.loop, evalBuiltin, liveW, regOf, startE, optN, mapGet, mapPut, orZero, keyOk, cellOk, decide_eq_true_eq, Bool.not_eq_true', decide_eq_false_iff_not, ite_not, not_true_eq_false, not_false_eq_true, reduceCtorEq, and_true, true_and, and_self, Int.reduceEq, ne_eq, gt_iff_lt, hG, a2, a3, a4', hl, hl2, hl3, k1]
    · have a4' : (((fl.length : Int) = (es.length : Int)) = False) := eq_false a4
      rw [if_pos a4]
      clear a4 k1 k2
      generalize fl.map flA = A at *
      generalize sd.map pairA = B at *
      generalize es.map edgeA = D at *
      generalize ns.map nodeA = N at *
      simp (config := { maxSteps := 4000000 }) only [Tryz.f18, go_sem, Nat.reduceBEq, Nat.reduceAdd, Nat.reduceSub, Nat.reduceEqDiff, Nat.reduceLeDiff, Nat.reduceMul, rgT, z_regionT, allocs, isv?, z_step, z_stepE, okDst, wantedA, evalOp, evalV, evalS, storeAt, look, ofV, ofC, putA, clearA, lookV, lookVs, lookParts, adrOk, baseAt, baseOf, loadAt, partA, binA, unA, resOf, mkRes, envOf, List.range, List.range.loop, evalBuiltin, liveW, regOf, startE, optN, mapGet, mapPut, orZero, keyOk, cellOk, decide_eq_true_eq, Bool.not_eq_true', decide_eq_false_iff_not, ite_not, not_true_eq_false, not_false_eq_true, reduceCtorEq, and_true, true_and, and_self, Int.reduceEq, ne_eq, gt_iff_lt, hG, a2, a3, a4', hl, hl2, hl3]
  · rw [if_pos a1]
    clear k1 k2
    generalize fl.map flA = A at *
    generalize sd.map pairA = B at *
    generalize es.map edgeA = D at *
    generalize ns.map nodeA = N at *
    simp (config := { maxSteps := 4000000 }) only [Tryz.f18, go_sem, Nat.reduceBEq, Nat.reduceAdd, Nat.reduceSub, Nat.reduceEqDiff, Nat.reduceLeDiff, Nat.reduceMul, rgT, z_regionT, allocs, isv?, z_step, z_stepE, okDst, wantedA, evalOp, evalV, evalS, storeAt, look, ofV, ofC, putA, clearA, lookV, lookVs, lookParts, adrOk, baseAt, baseOf, loadAt, partA, binA, unA, resOf, mkRes, envOf, List.range, List.range.loop, evalBuiltin, liveW, regOf, startE, optN, mapGet, mapPut, orZero, keyOk, cellOk, decide_eq_true_eq, Bool.not_eq_true', decide_eq_false_iff_not, ite_not, not_true_eq_false, not_false_eq_true, reduceCtorEq, and_true, true_and, and_self, ne_eq, hG, a1]

end Go.Can
