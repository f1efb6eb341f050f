/- Contracts: the reference's check of the edges. -/
import Derived.Test.YtjmljgajhkbciaaGreatIfdsCD
import Derived.Test.YtjmljgajhkbciaaGreatIfdsC8
set_option linter.unusedSimpArgs false
set_option linter.unusedVariables false
namespace Go.Can
open Go Go.Proofs

theorem c48' {σ : St} {base : Nat} {a1 a2 a3 a4 b1 b2 b3 b4 : Int} : callL Tryz.prog cfI 64 [.agg [.int .i64 a1, .int .i64 a2, .int .i64 a3, .int .i64 a4], .agg [.int .i64 b1, .int .i64 b2, .int .i64 b3, .int .i64 b4]] σ base = some (.bool (ltE (a1, a2, a3, a4) (b1, b2, b3, b4)), σ) := c48 (a := (a1, a2, a3, a4)) (b := (b1, b2, b3, b4))

theorem c49' {σ : St} {base : Nat} {nv ev : AV} {ns : List ND} {e1 e2 e3 e4 m : Int} {en : Int → Int → Bool} (hs : Sl σ 3 nv (ns.map nodeA)) (he : (Slot.val ev).v = some ev) (hok : EdgeOk ns (e1, e2, e3, e4))
    (hen : ∀ b c f, callL Tryz.prog cfI 85 [.agg [nv, ev, .int .i64 m], .int .i64 c, .int .i64 f] σ b = some (.bool (en c f), σ)) :
    callL Tryz.prog cfI 65 [.agg [nv, ev, .int .i64 m], .agg [.int .i64 e1, .int .i64 e2, .int .i64 e3, .int .i64 e4]] σ base = some (.bool (fitsB ns en (e1, e2, e3, e4)), σ) := c49 (e := (e1, e2, e3, e4)) hs he hok hen

set_option maxRecDepth 100000 in
set_option maxHeartbeats 16000000 in
theorem loop24 {σ : St} {fn fe : Bool} {ns : List ND} {es : List ED} {m : Int} (hlen : es.length < 2^62) : ∀ n (i : Nat), i + n = es.length →
    loopM Tryz.prog cfI 38 σ.length (loopOf Tryz.f38 7) (envS 119 [(1, .var [.list fn 3 (ns.map nodeA), .list fe 4 (es.map edgeA), .int .i64 m]), (4, .val (.int .i64 i))], σ) =
    if firstE (errAt ns es (anyC ns es)) n i = 0 then some (.exit 0, envS 119 [], σ) else some (.ret, envS 119 [(2, .val (.int .i64 (firstE (errAt ns es (anyC ns es)) n i)))], σ) := by
  have hl : lenS (.list fn 3 (ns.map nodeA)) = some ns.length := by simp [lenS]
  have hl2 : lenS (.list fe 4 (es.map edgeA)) = some es.length := by simp [lenS]
  have hS := Sl.list (σ := σ) (sz := 3) (f := fn) (ns.map nodeA)
  have hE := Sl.list (σ := σ) (sz := 4) (f := fe) (es.map edgeA)
  have hEv := hE.v
  have hen : ∀ b c f, callL Tryz.prog cfI 85 [.agg [.list fn 3 (ns.map nodeA), .list fe 4 (es.map edgeA), .int .i64 m], .int .i64 c, .int .i64 f] σ b = some (.bool (anyC ns es c f), σ) := fun b c f => c67 hS hE (by omega)
  clear hE
  intro n
  induction n with
  | zero =>
    intro i hi
    have hi' : ¬ ((i : Int) < es.length) := by omega
    rw [loopM_step (by kernel_rfl)]
    simp only [loopOf, findLoop, regOf, Option.getD, envOf, List.range, List.range.loop, go_sem, Nat.reduceBEq, Nat.reduceEqDiff, Option.some.injEq, reduceCtorEq, envS, Tryz.f38]
    clear hen hS hEv
    generalize ns.map nodeA = B at *
    generalize es.map edgeA = A at *
    simp only [go_sem, Nat.reduceBEq, Nat.reduceAdd, Nat.reduceSub, Nat.reduceEqDiff, Nat.reduceLeDiff, Nat.reduceMul, rgT, z_regionT, allocs, isv?, z_step, z_stepE, okDst, wantedA, evalOp, evalV, evalS, storeAt, look, ofV, ofC, putA, clearA, lookV, lookVs, lookParts, adrOk, baseAt, baseOf, loadAt, partA, binA, unA, resOf, mkRes, envOf, List.range, List.range.loop, evalBuiltin, liveW, regOf, startE, optN, mapGet, mapPut, orZero, keyOk, cellOk, decide_eq_true_eq, Bool.not_eq_true', decide_eq_false_iff_not, ite_not, not_true_eq_false, not_false_eq_true, reduceCtorEq, and_true, true_and, and_self, envS, hl2, hi', firstE, if_true]
  | succ n ih =>
    intro i hi
    have hlt : i < es.length := by omega
    obtain ⟨⟨e1, e2, e3, e4⟩, _, hel, hget⟩ := drop_at edgeA hlt
    have heq : eAt es i = (e1, e2, e3, e4) := by unfold eAt; rw [List.getD_eq_getElem?_getD, hget]; rfl
    have hw := w_inc hlt (by omega)
    have hi1 : (0 : Int) ≤ (i : Int) := by omega
    have hi2 : (i : Int) < (es.length : Int) := by omega
    have ih' := ih (i + 1) (by omega)
    rw [loopM_step (by kernel_rfl)]
    simp only [loopOf, findLoop, regOf, Option.getD, envOf, List.range, List.range.loop, go_sem, Nat.reduceBEq, Nat.reduceEqDiff, Option.some.injEq, reduceCtorEq, envS, Tryz.f38] at ih' ⊢
    unfold firstE
    have hea : errAt ns es (anyC ns es) i = edgeErr ns (anyC ns es) (prevE es i) (e1, e2, e3, e4) := by unfold errAt; rw [heq]
    rw [hea]
    have hpq := fun hz => prev_at (es := es) hlen hlt hz
    replace hel : (es.map edgeA)[i]? = some (.agg [.int .i64 e1, .int .i64 e2, .int .i64 e3, .int .i64 e4]) := hel
    clear ih hget heq hea
    generalize es.map edgeA = A at *
    by_cases a1 : e1 < 0
    · have hne : ¬ ((4 : Int) = 0) := by decide
      rw [edgeErr_range (by simp only; omega)]
      simp only [hne, if_false]
      simp (config := { maxSteps := 4000000 }) only [go_sem, Nat.reduceBEq, Nat.reduceAdd, Nat.reduceSub, Nat.reduceEqDiff, Nat.reduceLeDiff, Nat.reduceMul, rgT, z_regionT, allocs, isv?, z_step, z_stepE, okDst, wantedA, evalOp, evalV, evalS, storeAt, look, ofV, ofC, putA, clearA, lookV, lookVs, lookParts, adrOk, baseAt, baseOf, loadAt, partA, binA, unA, resOf, mkRes, envOf, List.range, List.range.loop, evalBuiltin, liveW, regOf, startE, optN, mapGet, mapPut, orZero, keyOk, cellOk, decide_eq_true_eq, Bool.not_eq_true', decide_eq_false_iff_not, ite_not, not_true_eq_false, not_false_eq_true, reduceCtorEq, and_true, true_and, and_self, Int.reduceLT, Int.reduceLE, Int.reduceEq, ite_self, envS, ge_iff_le, gt_iff_lt, hl, hl2, hel, hi1, hi2, hw, a1]
    by_cases a2 : (ns.length : Int) ≤ e1
    · have hne : ¬ ((4 : Int) = 0) := by decide
      rw [edgeErr_range (by simp only; omega)]
      simp only [hne, if_false]
      simp (config := { maxSteps := 4000000 }) only [go_sem, Nat.reduceBEq, Nat.reduceAdd, Nat.reduceSub, Nat.reduceEqDiff, Nat.reduceLeDiff, Nat.reduceMul, rgT, z_regionT, allocs, isv?, z_step, z_stepE, okDst, wantedA, evalOp, evalV, evalS, storeAt, look, ofV, ofC, putA, clearA, lookV, lookVs, lookParts, adrOk, baseAt, baseOf, loadAt, partA, binA, unA, resOf, mkRes, envOf, List.range, List.range.loop, evalBuiltin, liveW, regOf, startE, optN, mapGet, mapPut, orZero, keyOk, cellOk, decide_eq_true_eq, Bool.not_eq_true', decide_eq_false_iff_not, ite_not, not_true_eq_false, not_false_eq_true, reduceCtorEq, and_true, true_and, and_self, Int.reduceLT, Int.reduceLE, Int.reduceEq, ite_self, envS, ge_iff_le, gt_iff_lt, hl, hl2, hel, hi1, hi2, hw, a1, a2]
    by_cases a3 : e2 < 0
    · have hne : ¬ ((4 : Int) = 0) := by decide
      rw [edgeErr_range (by simp only; omega)]
      simp only [hne, if_false]
      simp (config := { maxSteps := 4000000 }) only [go_sem, Nat.reduceBEq, Nat.reduceAdd, Nat.reduceSub, Nat.reduceEqDiff, Nat.reduceLeDiff, Nat.reduceMul, rgT, z_regionT, allocs, isv?, z_step, z_stepE, okDst, wantedA, evalOp, evalV, evalS, storeAt, look, ofV, ofC, putA, clearA, lookV, lookVs, lookParts, adrOk, baseAt, baseOf, loadAt, partA, binA, unA, resOf, mkRes, envOf, List.range, List.range.loop, evalBuiltin, liveW, regOf, startE, optN, mapGet, mapPut, orZero, keyOk, cellOk, decide_eq_true_eq, Bool.not_eq_true', decide_eq_false_iff_not, ite_not, not_true_eq_false, not_false_eq_true, reduceCtorEq, and_true, true_and, and_self, Int.reduceLT, Int.reduceLE, Int.reduceEq, ite_self, envS, ge_iff_le, gt_iff_lt, hl, hl2, hel, hi1, hi2, hw, a1, a2, a3]
    by_cases a4 : (ns.length : Int) ≤ e2
    · have hne : ¬ ((4 : Int) = 0) := by decide
      rw [edgeErr_range (by simp only; omega)]
      simp only [hne, if_false]
      simp (config := { maxSteps := 4000000 }) only [go_sem, Nat.reduceBEq, Nat.reduceAdd, Nat.reduceSub, Nat.reduceEqDiff, Nat.reduceLeDiff, Nat.reduceMul, rgT, z_regionT, allocs, isv?, z_step, z_stepE, okDst, wantedA, evalOp, evalV, evalS, storeAt, look, ofV, ofC, putA, clearA, lookV, lookVs, lookParts, adrOk, baseAt, baseOf, loadAt, partA, binA, unA, resOf, mkRes, envOf, List.range, List.range.loop, evalBuiltin, liveW, regOf, startE, optN, mapGet, mapPut, orZero, keyOk, cellOk, decide_eq_true_eq, Bool.not_eq_true', decide_eq_false_iff_not, ite_not, not_true_eq_false, not_false_eq_true, reduceCtorEq, and_true, true_and, and_self, Int.reduceLT, Int.reduceLE, Int.reduceEq, ite_self, envS, ge_iff_le, gt_iff_lt, hl, hl2, hel, hi1, hi2, hw, a1, a2, a3, a4]
    have b0 : ¬ (e1 < 0 ∨ (ns.length : Int) ≤ e1 ∨ e2 < 0 ∨ (ns.length : Int) ≤ e2) := by omega
    by_cases a5 : e3 < 1
    · have hne : ¬ ((12 : Int) = 0) := by decide
      rw [edgeErr_kind b0 (by simp only; omega)]
      simp only [hne, if_false]
      simp (config := { maxSteps := 4000000 }) only [go_sem, Nat.reduceBEq, Nat.reduceAdd, Nat.reduceSub, Nat.reduceEqDiff, Nat.reduceLeDiff, Nat.reduceMul, rgT, z_regionT, allocs, isv?, z_step, z_stepE, okDst, wantedA, evalOp, evalV, evalS, storeAt, look, ofV, ofC, putA, clearA, lookV, lookVs, lookParts, adrOk, baseAt, baseOf, loadAt, partA, binA, unA, resOf, mkRes, envOf, List.range, List.range.loop, evalBuiltin, liveW, regOf, startE, optN, mapGet, mapPut, orZero, keyOk, cellOk, decide_eq_true_eq, Bool.not_eq_true', decide_eq_false_iff_not, ite_not, not_true_eq_false, not_false_eq_true, reduceCtorEq, and_true, true_and, and_self, Int.reduceLT, Int.reduceLE, Int.reduceEq, ite_self, envS, ge_iff_le, gt_iff_lt, hl, hl2, hel, hi1, hi2, hw, a1, a2, a3, a4, a5]
    by_cases a6 : 5 < e3
    · have hne : ¬ ((12 : Int) = 0) := by decide
      rw [edgeErr_kind b0 (by simp only; omega)]
      simp only [hne, if_false]
      simp (config := { maxSteps := 4000000 }) only [go_sem, Nat.reduceBEq, Nat.reduceAdd, Nat.reduceSub, Nat.reduceEqDiff, Nat.reduceLeDiff, Nat.reduceMul, rgT, z_regionT, allocs, isv?, z_step, z_stepE, okDst, wantedA, evalOp, evalV, evalS, storeAt, look, ofV, ofC, putA, clearA, lookV, lookVs, lookParts, adrOk, baseAt, baseOf, loadAt, partA, binA, unA, resOf, mkRes, envOf, List.range, List.range.loop, evalBuiltin, liveW, regOf, startE, optN, mapGet, mapPut, orZero, keyOk, cellOk, decide_eq_true_eq, Bool.not_eq_true', decide_eq_false_iff_not, ite_not, not_true_eq_false, not_false_eq_true, reduceCtorEq, and_true, true_and, and_self, Int.reduceLT, Int.reduceLE, Int.reduceEq, ite_self, envS, ge_iff_le, gt_iff_lt, hl, hl2, hel, hi1, hi2, hw, a1, a2, a3, a4, a5, a6]
    have b1 : ¬ (e3 < 1 ∨ 5 < e3) := by omega
    by_cases k1 : e3 = 1
    · subst k1
      by_cases c1 : e4 = -1
      · subst c1
        have hnum : EdgeNum ns (e1, e2, 1, -1) := ⟨⟨by simp only; omega, by simp only; omega, by first | (simp only; omega) | simp, fun h => absurd (by simp) h⟩, fun _ => rfl⟩
        have h49 := fun b => c49' (base := b) (m := m) hS hEv hnum.ok hen
        by_cases z : i = 0
        · have hp : prevE es i = none := by unfold prevE; rw [if_pos z]
          have hz : ¬ (0 : Int) < (i : Int) := by omega
          rw [hp, edgeErr_first hnum]
          generalize fitsB ns (anyC ns es) (e1, e2, 1, -1) = t at *
          cases t with
          | true =>
            simp only [if_true]
            simp (config := { maxSteps := 4000000 }) only [go_sem, Nat.reduceBEq, Nat.reduceAdd, Nat.reduceSub, Nat.reduceEqDiff, Nat.reduceLeDiff, Nat.reduceMul, rgT, z_regionT, allocs, isv?, z_step, z_stepE, okDst, wantedA, evalOp, evalV, evalS, storeAt, look, ofV, ofC, putA, clearA, lookV, lookVs, lookParts, adrOk, baseAt, baseOf, loadAt, partA, binA, unA, resOf, mkRes, envOf, List.range, List.range.loop, evalBuiltin, liveW, regOf, startE, optN, mapGet, mapPut, orZero, keyOk, cellOk, decide_eq_true_eq, Bool.not_eq_true', decide_eq_false_iff_not, ite_not, not_true_eq_false, not_false_eq_true, reduceCtorEq, and_true, true_and, and_self, Int.reduceLT, Int.reduceLE, Int.reduceEq, ite_self, envS, ge_iff_le, gt_iff_lt, hl, hl2, hel, hi1, hi2, hw, a1, a2, a3, a4, hz, h49, ih']
          | false =>
            have hne : ¬ ((20 : Int) = 0) := by decide
            simp only [hne, if_false, Bool.false_eq_true]
            simp (config := { maxSteps := 4000000 }) only [go_sem, Nat.reduceBEq, Nat.reduceAdd, Nat.reduceSub, Nat.reduceEqDiff, Nat.reduceLeDiff, Nat.reduceMul, rgT, z_regionT, allocs, isv?, z_step, z_stepE, okDst, wantedA, evalOp, evalV, evalS, storeAt, look, ofV, ofC, putA, clearA, lookV, lookVs, lookParts, adrOk, baseAt, baseOf, loadAt, partA, binA, unA, resOf, mkRes, envOf, List.range, List.range.loop, evalBuiltin, liveW, regOf, startE, optN, mapGet, mapPut, orZero, keyOk, cellOk, decide_eq_true_eq, Bool.not_eq_true', decide_eq_false_iff_not, ite_not, not_true_eq_false, not_false_eq_true, reduceCtorEq, and_true, true_and, and_self, Int.reduceLT, Int.reduceLE, Int.reduceEq, ite_self, envS, ge_iff_le, gt_iff_lt, hl, hl2, hel, hi1, hi2, hw, a1, a2, a3, a4, hz, h49]
        · obtain ⟨q1, q2, q3, q4, hq, hqel, hqw⟩ := hpq z
          have hz : (0 : Int) < (i : Int) := by omega
          rw [hq, edgeErr_next hnum]
          by_cases ho : ltE (q1, q2, q3, q4) (e1, e2, 1, -1) = true
          · rw [if_pos ho]
            generalize fitsB ns (anyC ns es) (e1, e2, 1, -1) = t at *
            cases t with
            | true =>
              simp only [if_true]
              simp (config := { maxSteps := 4000000 }) only [go_sem, Nat.reduceBEq, Nat.reduceAdd, Nat.reduceSub, Nat.reduceEqDiff, Nat.reduceLeDiff, Nat.reduceMul, rgT, z_regionT, allocs, isv?, z_step, z_stepE, okDst, wantedA, evalOp, evalV, evalS, storeAt, look, ofV, ofC, putA, clearA, lookV, lookVs, lookParts, adrOk, baseAt, baseOf, loadAt, partA, binA, unA, resOf, mkRes, envOf, List.range, List.range.loop, evalBuiltin, liveW, regOf, startE, optN, mapGet, mapPut, orZero, keyOk, cellOk, decide_eq_true_eq, Bool.not_eq_true', decide_eq_false_iff_not, ite_not, not_true_eq_false, not_false_eq_true, reduceCtorEq, and_true, true_and, and_self, Int.reduceLT, Int.reduceLE, Int.reduceEq, ite_self, envS, ge_iff_le, gt_iff_lt, hl, hl2, hel, hi1, hi2, hw, a1, a2, a3, a4, hz, hqw, hqel, c48', ho, h49, ih']
            | false =>
              have hne : ¬ ((20 : Int) = 0) := by decide
              simp only [hne, if_false, Bool.false_eq_true]
              simp (config := { maxSteps := 4000000 }) only [go_sem, Nat.reduceBEq, Nat.reduceAdd, Nat.reduceSub, Nat.reduceEqDiff, Nat.reduceLeDiff, Nat.reduceMul, rgT, z_regionT, allocs, isv?, z_step, z_stepE, okDst, wantedA, evalOp, evalV, evalS, storeAt, look, ofV, ofC, putA, clearA, lookV, lookVs, lookParts, adrOk, baseAt, baseOf, loadAt, partA, binA, unA, resOf, mkRes, envOf, List.range, List.range.loop, evalBuiltin, liveW, regOf, startE, optN, mapGet, mapPut, orZero, keyOk, cellOk, decide_eq_true_eq, Bool.not_eq_true', decide_eq_false_iff_not, ite_not, not_true_eq_false, not_false_eq_true, reduceCtorEq, and_true, true_and, and_self, Int.reduceLT, Int.reduceLE, Int.reduceEq, ite_self, envS, ge_iff_le, gt_iff_lt, hl, hl2, hel, hi1, hi2, hw, a1, a2, a3, a4, hz, hqw, hqel, c48', ho, h49]
          · have ho2 : ltE (q1, q2, q3, q4) (e1, e2, 1, -1) = false := Bool.eq_false_iff.2 ho
            · have hne : ¬ ((13 : Int) = 0) := by decide
              rw [if_neg ho]
              simp only [hne, if_false]
              simp (config := { maxSteps := 4000000 }) only [go_sem, Nat.reduceBEq, Nat.reduceAdd, Nat.reduceSub, Nat.reduceEqDiff, Nat.reduceLeDiff, Nat.reduceMul, rgT, z_regionT, allocs, isv?, z_step, z_stepE, okDst, wantedA, evalOp, evalV, evalS, storeAt, look, ofV, ofC, putA, clearA, lookV, lookVs, lookParts, adrOk, baseAt, baseOf, loadAt, partA, binA, unA, resOf, mkRes, envOf, List.range, List.range.loop, evalBuiltin, liveW, regOf, startE, optN, mapGet, mapPut, orZero, keyOk, cellOk, decide_eq_true_eq, Bool.not_eq_true', decide_eq_false_iff_not, ite_not, not_true_eq_false, not_false_eq_true, reduceCtorEq, and_true, true_and, and_self, Int.reduceLT, Int.reduceLE, Int.reduceEq, ite_self, envS, ge_iff_le, gt_iff_lt, hl, hl2, hel, hi1, hi2, hw, a1, a2, a3, a4, hz, hqw, hqel, c48', ho2]
      · have hne : ¬ ((4 : Int) = 0) := by decide
        rw [edgeErr_within b0 (by simp) c1]
        simp only [hne, if_false]
        simp (config := { maxSteps := 4000000 }) only [go_sem, Nat.reduceBEq, Nat.reduceAdd, Nat.reduceSub, Nat.reduceEqDiff, Nat.reduceLeDiff, Nat.reduceMul, rgT, z_regionT, allocs, isv?, z_step, z_stepE, okDst, wantedA, evalOp, evalV, evalS, storeAt, look, ofV, ofC, putA, clearA, lookV, lookVs, lookParts, adrOk, baseAt, baseOf, loadAt, partA, binA, unA, resOf, mkRes, envOf, List.range, List.range.loop, evalBuiltin, liveW, regOf, startE, optN, mapGet, mapPut, orZero, keyOk, cellOk, decide_eq_true_eq, Bool.not_eq_true', decide_eq_false_iff_not, ite_not, not_true_eq_false, not_false_eq_true, reduceCtorEq, and_true, true_and, and_self, Int.reduceLT, Int.reduceLE, Int.reduceEq, ite_self, envS, ge_iff_le, gt_iff_lt, hl, hl2, hel, hi1, hi2, hw, a1, a2, a3, a4, c1]
    by_cases k5 : e3 = 5
    · subst k5
      by_cases c1 : e4 = -1
      · subst c1
        have hnum : EdgeNum ns (e1, e2, 5, -1) := ⟨⟨by simp only; omega, by simp only; omega, by first | (simp only; omega) | simp, fun h => absurd (by simp) h⟩, fun _ => rfl⟩
        have h49 := fun b => c49' (base := b) (m := m) hS hEv hnum.ok hen
        by_cases z : i = 0
        · have hp : prevE es i = none := by unfold prevE; rw [if_pos z]
          have hz : ¬ (0 : Int) < (i : Int) := by omega
          rw [hp, edgeErr_first hnum]
          generalize fitsB ns (anyC ns es) (e1, e2, 5, -1) = t at *
          cases t with
          | true =>
            simp only [if_true]
            simp (config := { maxSteps := 4000000 }) only [go_sem, Nat.reduceBEq, Nat.reduceAdd, Nat.reduceSub, Nat.reduceEqDiff, Nat.reduceLeDiff, Nat.reduceMul, rgT, z_regionT, allocs, isv?, z_step, z_stepE, okDst, wantedA, evalOp, evalV, evalS, storeAt, look, ofV, ofC, putA, clearA, lookV, lookVs, lookParts, adrOk, baseAt, baseOf, loadAt, partA, binA, unA, resOf, mkRes, envOf, List.range, List.range.loop, evalBuiltin, liveW, regOf, startE, optN, mapGet, mapPut, orZero, keyOk, cellOk, decide_eq_true_eq, Bool.not_eq_true', decide_eq_false_iff_not, ite_not, not_true_eq_false, not_false_eq_true, reduceCtorEq, and_true, true_and, and_self, Int.reduceLT, Int.reduceLE, Int.reduceEq, ite_self, envS, ge_iff_le, gt_iff_lt, hl, hl2, hel, hi1, hi2, hw, a1, a2, a3, a4, hz, h49, ih']
          | false =>
            have hne : ¬ ((20 : Int) = 0) := by decide
            simp only [hne, if_false, Bool.false_eq_true]
            simp (config := { maxSteps := 4000000 }) only [go_sem, Nat.reduceBEq, Nat.reduceAdd, Nat.reduceSub, Nat.reduceEqDiff, Nat.reduceLeDiff, Nat.reduceMul, rgT, z_regionT, allocs, isv?, z_step, z_stepE, okDst, wantedA, evalOp, evalV, evalS, storeAt, look, ofV, ofC, putA, clearA, lookV, lookVs, lookParts, adrOk, baseAt, baseOf, loadAt, partA, binA, unA, resOf, mkRes, envOf, List.range, List.range.loop, evalBuiltin, liveW, regOf, startE, optN, mapGet, mapPut, orZero, keyOk, cellOk, decide_eq_true_eq, Bool.not_eq_true', decide_eq_false_iff_not, ite_not, not_true_eq_false, not_false_eq_true, reduceCtorEq, and_true, true_and, and_self, Int.reduceLT, Int.reduceLE, Int.reduceEq, ite_self, envS, ge_iff_le, gt_iff_lt, hl, hl2, hel, hi1, hi2, hw, a1, a2, a3, a4, hz, h49]
        · obtain ⟨q1, q2, q3, q4, hq, hqel, hqw⟩ := hpq z
          have hz : (0 : Int) < (i : Int) := by omega
          rw [hq, edgeErr_next hnum]
          by_cases ho : ltE (q1, q2, q3, q4) (e1, e2, 5, -1) = true
          · rw [if_pos ho]
            generalize fitsB ns (anyC ns es) (e1, e2, 5, -1) = t at *
            cases t with
            | true =>
              simp only [if_true]
              simp (config := { maxSteps := 4000000 }) only [go_sem, Nat.reduceBEq, Nat.reduceAdd, Nat.reduceSub, Nat.reduceEqDiff, Nat.reduceLeDiff, Nat.reduceMul, rgT, z_regionT, allocs, isv?, z_step, z_stepE, okDst, wantedA, evalOp, evalV, evalS, storeAt, look, ofV, ofC, putA, clearA, lookV, lookVs, lookParts, adrOk, baseAt, baseOf, loadAt, partA, binA, unA, resOf, mkRes, envOf, List.range, List.range.loop, evalBuiltin, liveW, regOf, startE, optN, mapGet, mapPut, orZero, keyOk, cellOk, decide_eq_true_eq, Bool.not_eq_true', decide_eq_false_iff_not, ite_not, not_true_eq_false, not_false_eq_true, reduceCtorEq, and_true, true_and, and_self, Int.reduceLT, Int.reduceLE, Int.reduceEq, ite_self, envS, ge_iff_le, gt_iff_lt, hl, hl2, hel, hi1, hi2, hw, a1, a2, a3, a4, hz, hqw, hqel, c48', ho, h49, ih']
            | false =>
              have hne : ¬ ((20 : Int) = 0) := by decide
              simp only [hne, if_false, Bool.false_eq_true]
              simp (config := { maxSteps := 4000000 }) only [go_sem, Nat.reduceBEq, Nat.reduceAdd, Nat.reduceSub, Nat.reduceEqDiff, Nat.reduceLeDiff, Nat.reduceMul, rgT, z_regionT, allocs, isv?, z_step, z_stepE, okDst, wantedA, evalOp, evalV, evalS, storeAt, look, ofV, ofC, putA, clearA, lookV, lookVs, lookParts, adrOk, baseAt, baseOf, loadAt, partA, binA, unA, resOf, mkRes, envOf, List.range, List.range.loop, evalBuiltin, liveW, regOf, startE, optN, mapGet, mapPut, orZero, keyOk, cellOk, decide_eq_true_eq, Bool.not_eq_true', decide_eq_false_iff_not, ite_not, not_true_eq_false, not_false_eq_true, reduceCtorEq, and_true, true_and, and_self, Int.reduceLT, Int.reduceLE, Int.reduceEq, ite_self, envS, ge_iff_le, gt_iff_lt, hl, hl2, hel, hi1, hi2, hw, a1, a2, a3, a4, hz, hqw, hqel, c48', ho, h49]
          · have ho2 : ltE (q1, q2, q3, q4) (e1, e2, 5, -1) = false := Bool.eq_false_iff.2 ho
            · have hne : ¬ ((13 : Int) = 0) := by decide
              rw [if_neg ho]
              simp only [hne, if_false]
              simp (config := { maxSteps := 4000000 }) only [go_sem, Nat.reduceBEq, Nat.reduceAdd, Nat.reduceSub, Nat.reduceEqDiff, Nat.reduceLeDiff, Nat.reduceMul, rgT, z_regionT, allocs, isv?, z_step, z_stepE, okDst, wantedA, evalOp, evalV, evalS, storeAt, look, ofV, ofC, putA, clearA, lookV, lookVs, lookParts, adrOk, baseAt, baseOf, loadAt, partA, binA, unA, resOf, mkRes, envOf, List.range, List.range.loop, evalBuiltin, liveW, regOf, startE, optN, mapGet, mapPut, orZero, keyOk, cellOk, decide_eq_true_eq, Bool.not_eq_true', decide_eq_false_iff_not, ite_not, not_true_eq_false, not_false_eq_true, reduceCtorEq, and_true, true_and, and_self, Int.reduceLT, Int.reduceLE, Int.reduceEq, ite_self, envS, ge_iff_le, gt_iff_lt, hl, hl2, hel, hi1, hi2, hw, a1, a2, a3, a4, hz, hqw, hqel, c48', ho2]
      · have hne : ¬ ((4 : Int) = 0) := by decide
        rw [edgeErr_within b0 (by simp) c1]
        simp only [hne, if_false]
        simp (config := { maxSteps := 4000000 }) only [go_sem, Nat.reduceBEq, Nat.reduceAdd, Nat.reduceSub, Nat.reduceEqDiff, Nat.reduceLeDiff, Nat.reduceMul, rgT, z_regionT, allocs, isv?, z_step, z_stepE, okDst, wantedA, evalOp, evalV, evalS, storeAt, look, ofV, ofC, putA, clearA, lookV, lookVs, lookParts, adrOk, baseAt, baseOf, loadAt, partA, binA, unA, resOf, mkRes, envOf, List.range, List.range.loop, evalBuiltin, liveW, regOf, startE, optN, mapGet, mapPut, orZero, keyOk, cellOk, decide_eq_true_eq, Bool.not_eq_true', decide_eq_false_iff_not, ite_not, not_true_eq_false, not_false_eq_true, reduceCtorEq, and_true, true_and, and_self, Int.reduceLT, Int.reduceLE, Int.reduceEq, ite_self, envS, ge_iff_le, gt_iff_lt, hl, hl2, hel, hi1, hi2, hw, a1, a2, a3, a4, c1]
    by_cases d1 : e4 < 0
    · have hne : ¬ ((4 : Int) = 0) := by decide
      rw [edgeErr_call b0 b1 (by simp only; omega) (by simp only; omega)]
      simp only [hne, if_false]
      simp (config := { maxSteps := 4000000 }) only [go_sem, Nat.reduceBEq, Nat.reduceAdd, Nat.reduceSub, Nat.reduceEqDiff, Nat.reduceLeDiff, Nat.reduceMul, rgT, z_regionT, allocs, isv?, z_step, z_stepE, okDst, wantedA, evalOp, evalV, evalS, storeAt, look, ofV, ofC, putA, clearA, lookV, lookVs, lookParts, adrOk, baseAt, baseOf, loadAt, partA, binA, unA, resOf, mkRes, envOf, List.range, List.range.loop, evalBuiltin, liveW, regOf, startE, optN, mapGet, mapPut, orZero, keyOk, cellOk, decide_eq_true_eq, Bool.not_eq_true', decide_eq_false_iff_not, ite_not, not_true_eq_false, not_false_eq_true, reduceCtorEq, and_true, true_and, and_self, Int.reduceLT, Int.reduceLE, Int.reduceEq, ite_self, envS, ge_iff_le, gt_iff_lt, hl, hl2, hel, hi1, hi2, hw, a1, a2, a3, a4, a5, a6, k1, k5, d1]
    by_cases d2 : (ns.length : Int) ≤ e4
    · have hne : ¬ ((4 : Int) = 0) := by decide
      rw [edgeErr_call b0 b1 (by simp only; omega) (by simp only; omega)]
      simp only [hne, if_false]
      simp (config := { maxSteps := 4000000 }) only [go_sem, Nat.reduceBEq, Nat.reduceAdd, Nat.reduceSub, Nat.reduceEqDiff, Nat.reduceLeDiff, Nat.reduceMul, rgT, z_regionT, allocs, isv?, z_step, z_stepE, okDst, wantedA, evalOp, evalV, evalS, storeAt, look, ofV, ofC, putA, clearA, lookV, lookVs, lookParts, adrOk, baseAt, baseOf, loadAt, partA, binA, unA, resOf, mkRes, envOf, List.range, List.range.loop, evalBuiltin, liveW, regOf, startE, optN, mapGet, mapPut, orZero, keyOk, cellOk, decide_eq_true_eq, Bool.not_eq_true', decide_eq_false_iff_not, ite_not, not_true_eq_false, not_false_eq_true, reduceCtorEq, and_true, true_and, and_self, Int.reduceLT, Int.reduceLE, Int.reduceEq, ite_self, envS, ge_iff_le, gt_iff_lt, hl, hl2, hel, hi1, hi2, hw, a1, a2, a3, a4, a5, a6, k1, k5, d1, d2]
    have hnum : EdgeNum ns (e1, e2, e3, e4) := ⟨⟨by simp only; omega, by simp only; omega, by simp only; omega, fun _ => by simp only; omega⟩, fun h => by simp only at h; omega⟩
    have h49 := fun b => c49' (base := b) (m := m) hS hEv hnum.ok hen
    by_cases z : i = 0
    · have hp : prevE es i = none := by unfold prevE; rw [if_pos z]
      have hz : ¬ (0 : Int) < (i : Int) := by omega
      rw [hp, edgeErr_first hnum]
      generalize fitsB ns (anyC ns es) (e1, e2, e3, e4) = t at *
      cases t with
      | true =>
        simp only [if_true]
        simp (config := { maxSteps := 4000000 }) only [go_sem, Nat.reduceBEq, Nat.reduceAdd, Nat.reduceSub, Nat.reduceEqDiff, Nat.reduceLeDiff, Nat.reduceMul, rgT, z_regionT, allocs, isv?, z_step, z_stepE, okDst, wantedA, evalOp, evalV, evalS, storeAt, look, ofV, ofC, putA, clearA, lookV, lookVs, lookParts, adrOk, baseAt, baseOf, loadAt, partA, binA, unA, resOf, mkRes, envOf, List.range, List.range.loop, evalBuiltin, liveW, regOf, startE, optN, mapGet, mapPut, orZero, keyOk, cellOk, decide_eq_true_eq, Bool.not_eq_true', decide_eq_false_iff_not, ite_not, not_true_eq_false, not_false_eq_true, reduceCtorEq, and_true, true_and, and_self, Int.reduceLT, Int.reduceLE, Int.reduceEq, ite_self, envS, ge_iff_le, gt_iff_lt, hl, hl2, hel, hi1, hi2, hw, a1, a2, a3, a4, a5, a6, k1, k5, d1, d2, hz, h49, ih']
      | false =>
        have hne : ¬ ((20 : Int) = 0) := by decide
        simp only [hne, if_false, Bool.false_eq_true]
        simp (config := { maxSteps := 4000000 }) only [go_sem, Nat.reduceBEq, Nat.reduceAdd, Nat.reduceSub, Nat.reduceEqDiff, Nat.reduceLeDiff, Nat.reduceMul, rgT, z_regionT, allocs, isv?, z_step, z_stepE, okDst, wantedA, evalOp, evalV, evalS, storeAt, look, ofV, ofC, putA, clearA, lookV, lookVs, lookParts, adrOk, baseAt, baseOf, loadAt, partA, binA, unA, resOf, mkRes, envOf, List.range, List.range.loop, evalBuiltin, liveW, regOf, startE, optN, mapGet, mapPut, orZero, keyOk, cellOk, decide_eq_true_eq, Bool.not_eq_true', decide_eq_false_iff_not, ite_not, not_true_eq_false, not_false_eq_true, reduceCtorEq, and_true, true_and, and_self, Int.reduceLT, Int.reduceLE, Int.reduceEq, ite_self, envS, ge_iff_le, gt_iff_lt, hl, hl2, hel, hi1, hi2, hw, a1, a2, a3, a4, a5, a6, k1, k5, d1, d2, hz, h49]
    · obtain ⟨q1, q2, q3, q4, hq, hqel, hqw⟩ := hpq z
      have hz : (0 : Int) < (i : Int) := by omega
      rw [hq, edgeErr_next hnum]
      by_cases ho : ltE (q1, q2, q3, q4) (e1, e2, e3, e4) = true
      · rw [if_pos ho]
        generalize fitsB ns (anyC ns es) (e1, e2, e3, e4) = t at *
        cases t with
        | true =>
          simp only [if_true]
          simp (config := { maxSteps := 4000000 }) only [go_sem, Nat.reduceBEq, Nat.reduceAdd, Nat.reduceSub, Nat.reduceEqDiff, Nat.reduceLeDiff, Nat.reduceMul, rgT, z_regionT, allocs, isv?, z_step, z_stepE, okDst, wantedA, evalOp, evalV, evalS, storeAt, look, ofV, ofC, putA, clearA, lookV, lookVs, lookParts, adrOk, baseAt, baseOf, loadAt, partA, binA, unA, resOf, mkRes, envOf, List.range, List.range.loop, evalBuiltin, liveW, regOf, startE, optN, mapGet, mapPut, orZero, keyOk, cellOk, decide_eq_true_eq, Bool.not_eq_true', decide_eq_false_iff_not, ite_not, not_true_eq_false, not_false_eq_true, reduceCtorEq, and_true, true_and, and_self, Int.reduceLT, Int.reduceLE, Int.reduceEq, ite_self, envS, ge_iff_le, gt_iff_lt, hl, hl2, hel, hi1, hi2, hw, a1, a2, a3, a4, a5, a6, k1, k5, d1, d2, hz, hqw, hqel, c48', ho, h49, ih']
        | false =>
          have hne : ¬ ((20 : Int) = 0) := by decide
          simp only [hne, if_false, Bool.false_eq_true]
          simp (config := { maxSteps := 4000000 }) only [go_sem, Nat.reduceBEq, Nat.reduceAdd, Nat.reduceSub, Nat.reduceEqDiff, Nat.reduceLeDiff, Nat.reduceMul, rgT, z_regionT, allocs, isv?, z_step, z_stepE, okDst, wantedA, evalOp, evalV, evalS, storeAt, look, ofV, ofC, putA, clearA, lookV, lookVs, lookParts, adrOk, baseAt, baseOf, loadAt, partA, binA, unA, resOf, mkRes, envOf, List.range, List.range.loop, evalBuiltin, liveW, regOf, startE, optN, mapGet, mapPut, orZero, keyOk, cellOk, decide_eq_true_eq, Bool.not_eq_true', decide_eq_false_iff_not, ite_not, not_true_eq_false, not_false_eq_true, reduceCtorEq, and_true, true_and, and_self, Int.reduceLT, Int.reduceLE, Int.reduceEq, ite_self, envS, ge_iff_le, gt_iff_lt, hl, hl2, hel, hi1, hi2, hw, a1, a2, a3, a4, a5, a6, k1, k5, d1, d2, hz, hqw, hqel, c48', ho, h49]
      · have ho2 : ltE (q1, q2, q3, q4) (e1, e2, e3, e4) = false := Bool.eq_false_iff.2 ho
        · have hne : ¬ ((13 : Int) = 0) := by decide
          rw [if_neg ho]
          simp only [hne, if_false]
          simp (config := { maxSteps := 4000000 }) only [go_sem, Nat.reduceBEq, Nat.reduceAdd, Nat.reduceSub, Nat.reduceEqDiff, Nat.reduceLeDiff, Nat.reduceMul, rgT, z_regionT, allocs, isv?, z_step, z_stepE, okDst, wantedA, evalOp, evalV, evalS, storeAt, look, ofV, ofC, putA, clearA, lookV, lookVs, lookParts, adrOk, baseAt, baseOf, loadAt, partA, binA, unA, resOf, mkRes, envOf, List.range, List.range.loop, evalBuiltin, liveW, regOf, startE, optN, mapGet, mapPut, orZero, keyOk, cellOk, decide_eq_true_eq, Bool.not_eq_true', decide_eq_false_iff_not, ite_not, not_true_eq_false, not_false_eq_true, reduceCtorEq, and_true, true_and, and_self, Int.reduceLT, Int.reduceLE, Int.reduceEq, ite_self, envS, ge_iff_le, gt_iff_lt, hl, hl2, hel, hi1, hi2, hw, a1, a2, a3, a4, a5, a6, k1, k5, d1, d2, hz, hqw, hqel, c48', ho2]


end Go.Can
