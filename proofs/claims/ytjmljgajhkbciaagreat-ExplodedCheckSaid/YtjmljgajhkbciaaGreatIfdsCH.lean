/- Contracts: the checks of a flow function. Contracts: the reference's check of a flow function. -/
import Derived.Test.YtjmljgajhkbciaaGreatIfdsD
set_option linter.unusedSimpArgs false
set_option linter.unusedVariables false
namespace Go.Can
open Go Go.Proofs

theorem c45' {σ : St} {base : Nat} {a1 a2 b1 b2 : Int} : callL Tryz.prog cfI 56 [.agg [.int .i64 a1, .int .i64 a2], .agg [.int .i64 b1, .int .i64 b2]] σ base = some (.int .i64 (cmpP (a1, a2) (b1, b2)), σ) := c45 (a := (a1, a2)) (b := (b1, b2))
theorem c33' {σ : St} {base : Nat} {a1 a2 n : Int} : callL Tryz.prog cfI 66 [.agg [.int .i64 a1, .int .i64 a2], .int .i64 n] σ base = some (.bool (inR (a1, a2) n), σ) := c33 (a := (a1, a2))
theorem c34' {σ : St} {base : Nat} {a1 a2 b1 b2 : Int} : callL Tryz.prog cfI 67 [.agg [.int .i64 a1, .int .i64 a2], .agg [.int .i64 b1, .int .i64 b2]] σ base = some (.bool (ltP (a1, a2) (b1, b2)), σ) := c34 (a := (a1, a2)) (b := (b1, b2))

theorem key41 {a b : Int} : keyOk Tryz.prog 79 (.agg [.int .i64 a, .int .i64 b]) = true := by kernel_rfl

theorem cells2 {a b : Int} : cellsEq [.int .i64 a, .int .i64 b] [.int .i64 0, .int .i64 0] = some (decide ((a, b) = ((0, 0) : Int × Int))) := by
  simp only [cellsEq, cellEq, if_true]
  by_cases h1 : a = 0
  · subst h1
    by_cases h2 : b = 0
    · subst h2; rfl
    · have : (b == 0) = false := by simpa using h2
      simp [this, h2]
  · have : (a == 0) = false := by simpa using h1
    simp [this, h1]

theorem prevP_at {l : List PD} {i : Nat} (hlen : l.length < 2^63) (hi : i < l.length) (hz : ¬ i = 0) :
    ∃ q1 q2, pAt l (i - 1) = (q1, q2) ∧ (l.map pairA)[(IntKind.i64.wrap ((i : Int) - 1)).toNat]? = some (.agg [.int .i64 q1, .int .i64 q2]) ∧ (0 ≤ IntKind.i64.wrap ((i : Int) - 1) ∧ IntKind.i64.wrap ((i : Int) - 1) < (l.length : Int)) := by
  have hw : IntKind.i64.wrap ((i : Int) - 1) = ((i - 1 : Nat) : Int) := by rw [wrap_i64] <;> omega
  have h1 : i - 1 < l.length := by omega
  obtain ⟨⟨q1, q2⟩, _, h2, h3⟩ := drop_at pairA h1
  refine ⟨q1, q2, by unfold pAt; rw [List.getD_eq_getElem?_getD, h3]; rfl, ?_, ?_⟩
  · rw [hw, Int.toNat_natCast, h2]; rfl
  · rw [hw]; omega

theorem inR_two {y1 y2 n : Int} : inR (y1, y2) n = (decide (0 ≤ y1 ∧ y1 < n) && decide (0 ≤ y2 ∧ y2 < n)) := by
  unfold inR
  rw [Bool.eq_iff_iff]
  simp only [Bool.and_eq_true, decide_eq_true_eq]
  omega

theorem pairErr_range {l : List PD} {n : Int} {i : Nat} (h : inR (pAt l i) n = false) : pairErr l n i = 4 := by unfold pairErr; rw [if_pos h]
theorem pairErr_zero {l : List PD} {n : Int} (h : inR (pAt l 0) n = true) : pairErr l n 0 = 0 := by unfold pairErr; rw [if_neg (by rw [h]; decide), if_neg (by simp)]
theorem pairErr_next {l : List PD} {n : Int} {i : Nat} (h : inR (pAt l i) n = true) (hz : ¬ i = 0) : pairErr l n i = if ltP (pAt l (i - 1)) (pAt l i) = true then 0 else 13 := by
  unfold pairErr
  have : decide (0 < i) = true := decide_eq_true (by omega)
  rw [if_neg (by rw [h]; decide), this]
  cases ltP (pAt l (i - 1)) (pAt l i) <;> simp

set_option maxRecDepth 100000 in
set_option maxHeartbeats 16000000 in
theorem loop21 {σ : St} {fl : Bool} {l : List PD} {n : Int} (hlen : l.length < 2^63) : ∀ c (i : Nat), i + c = l.length →
    loopM Tryz.prog cfI 33 σ.length (loopOf Tryz.f33 6) (envS 57 [(0, .val (.list fl 2 (l.map pairA))), (1, .val (.int .i64 n)), (15, .val (.list fl 2 (l.map pairA))), (16, .val (.int .i64 l.length)), (17, .val (.int .i64 i))], σ) =
    if firstE (pairErr l n) c i = 0 then some (.exit 1, envS 57 [(0, .val (.list fl 2 (l.map pairA)))], σ) else some (.ret, envS 57 [(4, .val (.int .i64 (firstE (pairErr l n) c i)))], σ) := by
  have hl : lenS (.list fl 2 (l.map pairA)) = some l.length := by simp [lenS]
  intro c
  induction c with
  | zero =>
    intro i hi
    have hi' : ¬ ((i : Int) < l.length) := by omega
    rw [loopM_step (by kernel_rfl)]
    simp only [loopOf, findLoop, regOf, Option.getD, envOf, List.range, List.range.loop, go_sem, Nat.reduceBEq, Nat.reduceEqDiff, Option.some.injEq, reduceCtorEq, envS, Tryz.f33]
    generalize l.map pairA = A at *
    simp only [go_sem, Nat.reduceBEq, Nat.reduceAdd, Nat.reduceSub, Nat.reduceEqDiff, Nat.reduceLeDiff, Nat.reduceMul, rgT, z_regionT, allocs, isv?, z_step, z_stepE, okDst, wantedA, evalOp, evalV, evalS, storeAt, look, ofV, ofC, putA, clearA, lookV, lookVs, lookParts, adrOk, baseAt, baseOf, loadAt, partA, binA, unA, resOf, mkRes, envOf, List.range, List.range.loop, evalBuiltin, liveW, regOf, startE, optN, mapGet, mapPut, orZero, keyOk, cellOk, decide_eq_true_eq, Bool.not_eq_true', decide_eq_false_iff_not, ite_not, not_true_eq_false, not_false_eq_true, reduceCtorEq, and_true, true_and, and_self, envS, hi', firstE, if_true]
  | succ c ih =>
    intro i hi
    have hlt : i < l.length := by omega
    obtain ⟨⟨y1, y2⟩, _, hel, hget⟩ := drop_at pairA hlt
    have heq : pAt l i = (y1, y2) := by unfold pAt; rw [List.getD_eq_getElem?_getD, hget]; rfl
    have hw := w_inc hlt (by omega)
    have h0i : (0 : Int) ≤ (i : Int) := by omega
    have hlt' : (i : Int) < (l.length : Int) := by omega
    have ih' := ih (i + 1) (by omega)
    have f1 := fun b => c44 (σ := σ) (base := b) (d := y1) (n := n)
    have f2 := fun b => c44 (σ := σ) (base := b) (d := y2) (n := n)
    have hpq := fun hz => prevP_at (l := l) hlen hlt hz
    have hin := inR_two (y1 := y1) (y2 := y2) (n := n)
    rw [loopM_step (by kernel_rfl)]
    simp only [loopOf, findLoop, regOf, Option.getD, envOf, List.range, List.range.loop, go_sem, Nat.reduceBEq, Nat.reduceEqDiff, Option.some.injEq, reduceCtorEq, envS, Tryz.f33] at ih' ⊢
    unfold firstE
    replace hel : (l.map pairA)[i]? = some (.agg [.int .i64 y1, .int .i64 y2]) := hel
    clear ih hget
    generalize decide (0 ≤ y1 ∧ y1 < n) = t1 at *
    generalize decide (0 ≤ y2 ∧ y2 < n) = t2 at *
    generalize l.map pairA = A at *
    have n4 : ¬ ((4 : Int) = 0) := by decide
    have n13 : ¬ ((13 : Int) = 0) := by decide
    cases t1 with
    | false =>
      rw [pairErr_range (by rw [heq, hin]; rfl)]
      simp only [n4, if_false]
      simp (config := { maxSteps := 4000000 }) only [go_sem, Nat.reduceBEq, Nat.reduceAdd, Nat.reduceSub, Nat.reduceEqDiff, Nat.reduceLeDiff, Nat.reduceMul, rgT, z_regionT, allocs, isv?, z_step, z_stepE, okDst, wantedA, evalOp, evalV, evalS, storeAt, look, ofV, ofC, putA, clearA, lookV, lookVs, lookParts, adrOk, baseAt, baseOf, loadAt, partA, binA, unA, resOf, mkRes, envOf, List.range, List.range.loop, evalBuiltin, liveW, regOf, startE, optN, mapGet, mapPut, orZero, keyOk, cellOk, decide_eq_true_eq, Bool.not_eq_true', decide_eq_false_iff_not, ite_not, not_true_eq_false, not_false_eq_true, reduceCtorEq, and_true, true_and, and_self, envS, gt_iff_lt, ge_iff_le, hlt', h0i, hl, hel, hw, f1, f2]
    | true =>
      cases t2 with
      | false =>
        rw [pairErr_range (by rw [heq, hin]; rfl)]
        simp only [n4, if_false]
        simp (config := { maxSteps := 4000000 }) only [go_sem, Nat.reduceBEq, Nat.reduceAdd, Nat.reduceSub, Nat.reduceEqDiff, Nat.reduceLeDiff, Nat.reduceMul, rgT, z_regionT, allocs, isv?, z_step, z_stepE, okDst, wantedA, evalOp, evalV, evalS, storeAt, look, ofV, ofC, putA, clearA, lookV, lookVs, lookParts, adrOk, baseAt, baseOf, loadAt, partA, binA, unA, resOf, mkRes, envOf, List.range, List.range.loop, evalBuiltin, liveW, regOf, startE, optN, mapGet, mapPut, orZero, keyOk, cellOk, decide_eq_true_eq, Bool.not_eq_true', decide_eq_false_iff_not, ite_not, not_true_eq_false, not_false_eq_true, reduceCtorEq, and_true, true_and, and_self, envS, gt_iff_lt, ge_iff_le, hlt', h0i, hl, hel, hw, f1, f2]
      | true =>
        have hR : inR (pAt l i) n = true := by rw [heq, hin]; rfl
        by_cases z : i = 0
        · have he : pairErr l n i = 0 := by subst z; exact pairErr_zero hR
          have hz : ¬ (0 : Int) < (i : Int) := by omega
          rw [he, if_pos rfl]
          simp (config := { maxSteps := 4000000 }) only [go_sem, Nat.reduceBEq, Nat.reduceAdd, Nat.reduceSub, Nat.reduceEqDiff, Nat.reduceLeDiff, Nat.reduceMul, rgT, z_regionT, allocs, isv?, z_step, z_stepE, okDst, wantedA, evalOp, evalV, evalS, storeAt, look, ofV, ofC, putA, clearA, lookV, lookVs, lookParts, adrOk, baseAt, baseOf, loadAt, partA, binA, unA, resOf, mkRes, envOf, List.range, List.range.loop, evalBuiltin, liveW, regOf, startE, optN, mapGet, mapPut, orZero, keyOk, cellOk, decide_eq_true_eq, Bool.not_eq_true', decide_eq_false_iff_not, ite_not, not_true_eq_false, not_false_eq_true, reduceCtorEq, and_true, true_and, and_self, envS, gt_iff_lt, ge_iff_le, hlt', h0i, hl, hel, hw, f1, f2, hz, ih']
        · obtain ⟨q1, q2, hq, hqel, hqw⟩ := hpq z
          have hz : (0 : Int) < (i : Int) := by omega
          rw [pairErr_next hR z, heq, hq]
          by_cases ho : ltP (q1, q2) (y1, y2) = true
          · have hc : (0 ≤ cmpP (q1, q2) (y1, y2)) = False := eq_false (fun h => by rw [← ge_iff_le, cmpP_ge, ho] at h; cases h)
            rw [if_pos ho, if_pos rfl]
            simp (config := { maxSteps := 4000000 }) only [go_sem, Nat.reduceBEq, Nat.reduceAdd, Nat.reduceSub, Nat.reduceEqDiff, Nat.reduceLeDiff, Nat.reduceMul, rgT, z_regionT, allocs, isv?, z_step, z_stepE, okDst, wantedA, evalOp, evalV, evalS, storeAt, look, ofV, ofC, putA, clearA, lookV, lookVs, lookParts, adrOk, baseAt, baseOf, loadAt, partA, binA, unA, resOf, mkRes, envOf, List.range, List.range.loop, evalBuiltin, liveW, regOf, startE, optN, mapGet, mapPut, orZero, keyOk, cellOk, decide_eq_true_eq, Bool.not_eq_true', decide_eq_false_iff_not, ite_not, not_true_eq_false, not_false_eq_true, reduceCtorEq, and_true, true_and, and_self, envS, gt_iff_lt, ge_iff_le, hlt', h0i, hl, hel, hw, f1, f2, hz, hqel, hqw, c45', hc, ih']
          · have hc : (0 ≤ cmpP (q1, q2) (y1, y2)) = True := eq_true (by rw [← ge_iff_le, cmpP_ge]; exact Bool.eq_false_iff.2 ho)
            rw [if_neg ho]
            simp only [n13, if_false]
            simp (config := { maxSteps := 4000000 }) only [go_sem, Nat.reduceBEq, Nat.reduceAdd, Nat.reduceSub, Nat.reduceEqDiff, Nat.reduceLeDiff, Nat.reduceMul, rgT, z_regionT, allocs, isv?, z_step, z_stepE, okDst, wantedA, evalOp, evalV, evalS, storeAt, look, ofV, ofC, putA, clearA, lookV, lookVs, lookParts, adrOk, baseAt, baseOf, loadAt, partA, binA, unA, resOf, mkRes, envOf, List.range, List.range.loop, evalBuiltin, liveW, regOf, startE, optN, mapGet, mapPut, orZero, keyOk, cellOk, decide_eq_true_eq, Bool.not_eq_true', decide_eq_false_iff_not, ite_not, not_true_eq_false, not_false_eq_true, reduceCtorEq, and_true, true_and, and_self, envS, gt_iff_lt, ge_iff_le, hlt', h0i, hl, hel, hw, f1, f2, hz, hqel, hqw, c45', hc]

set_option maxRecDepth 100000 in
set_option maxHeartbeats 16000000 in
theorem c21 {σ : St} {base : Nat} {fl : Bool} {l : List PD} {n : Int} :
    callL Tryz.prog cfI 33 [.list fl 2 (l.map pairA), .int .i64 n] σ base = some (.int .i64 (flowErr l n), σ) := by
  have hl : lenS (.list fl 2 (l.map pairA)) = some l.length := by simp [lenS]
  have h43 := fun b => c43 (σ := σ) (base := b) (n := n)
  refine callL_pure (σ' := σ) (v := .int .i64 (flowErr l n)) Tryz.func33 rfl (by kernel_rfl) rfl rfl (by simp) ?_ rfl
  rw [z_body]
  unfold flowErr
  by_cases a1 : 1 ≤ n ∧ n ≤ 1024
  · rw [if_neg (fun h => h a1)]
    rw [decide_eq_true a1] at h43
    by_cases a2 : 8192 < (l.length : Int)
    · rw [if_pos (by omega)]
      generalize l.map pairA = A at *
      simp (config := { maxSteps := 4000000 }) only [Tryz.f33, go_sem, Nat.reduceBEq, Nat.reduceAdd, Nat.reduceSub, Nat.reduceEqDiff, Nat.reduceLeDiff, Nat.reduceMul, rgT, z_regionT, allocs, isv?, z_step, z_stepE, okDst, wantedA, evalOp, evalV, evalS, storeAt, look, ofV, ofC, putA, clearA, lookV, lookVs, lookParts, adrOk, baseAt, baseOf, loadAt, partA, binA, unA, resOf, mkRes, envOf, List.range, List.range.loop, evalBuiltin, liveW, regOf, startE, optN, mapGet, mapPut, orZero, keyOk, cellOk, decide_eq_true_eq, Bool.not_eq_true', decide_eq_false_iff_not, ite_not, not_true_eq_false, not_false_eq_true, reduceCtorEq, and_true, true_and, and_self, gt_iff_lt, hl, h43, a2]
    · rw [if_neg (by omega)]
      have key0 := loop21 (σ := σ) (fl := fl) (l := l) (n := n) (by omega) l.length 0 (by omega)
      rw [show ((0 : Nat) : Int) = 0 from rfl] at key0
      simp only [loopOf, findLoop, regOf, Option.getD, envOf, List.range, List.range.loop, go_sem, Nat.reduceBEq, Nat.reduceEqDiff, Option.some.injEq, reduceCtorEq, envS, Tryz.f33] at key0
      by_cases a3 : firstE (pairErr l n) l.length 0 = 0
      · rw [if_pos a3] at key0
        rw [if_pos a3, zero_first a3]
        by_cases a4 : l.length = 0
        · have a4' : (((l.length : Int) = 0) = True) := eq_true (by omega)
          simp only [a4, decide_true, Bool.not_true, Bool.false_and, Bool.false_eq_true, if_false]
          generalize l.map pairA = A at *
          simp (config := { maxSteps := 4000000 }) only [Tryz.f33, go_sem, Nat.reduceBEq, Nat.reduceAdd, Nat.reduceSub, Nat.reduceEqDiff, Nat.reduceLeDiff, Nat.reduceMul, rgT, z_regionT, allocs, isv?, z_step, z_stepE, okDst, wantedA, evalOp, evalV, evalS, storeAt, look, ofV, ofC, putA, clearA, lookV, lookVs, lookParts, adrOk, baseAt, baseOf, loadAt, partA, binA, unA, resOf, mkRes, envOf, List.range, List.range.loop, evalBuiltin, liveW, regOf, startE, optN, mapGet, mapPut, orZero, keyOk, cellOk, decide_eq_true_eq, Bool.not_eq_true', decide_eq_false_iff_not, ite_not, not_true_eq_false, not_false_eq_true, reduceCtorEq, and_true, true_and, and_self, gt_iff_lt, hl, h43, key0, a2, a4']
        · obtain ⟨⟨y1, y2⟩, _, hel, hget⟩ := drop_at pairA (show 0 < l.length by omega)
          have heq : pAt l 0 = (y1, y2) := by unfold pAt; rw [List.getD_eq_getElem?_getD, hget]; rfl
          have a4' : ¬ ((l.length : Int) = 0) := by omega
          have a5 : (0 : Int) < (l.length : Int) := by omega
          have a6 : ((0 : Int) ≤ 0) = True := by simp
          have a7 : (0 : Int).toNat = 0 := rfl
          rw [heq]
          simp only [a4, decide_false, Bool.not_false, Bool.true_and]
          have hk := key41 (a := y1) (b := y2)
          unfold keyOk at hk
          have hce := cells2 (a := y1) (b := y2)
          replace hel : (l.map pairA)[0]? = some (.agg [.int .i64 y1, .int .i64 y2]) := hel
          generalize l.map pairA = A at *
          generalize decide ((y1, y2) = ((0, 0) : Int × Int)) = t at *
          cases t <;> simp (config := { maxSteps := 4000000 }) only [Tryz.f33, go_sem, Nat.reduceBEq, Nat.reduceAdd, Nat.reduceSub, Nat.reduceEqDiff, Nat.reduceLeDiff, Nat.reduceMul, rgT, z_regionT, allocs, isv?, z_step, z_stepE, okDst, wantedA, evalOp, evalV, evalS, storeAt, look, ofV, ofC, putA, clearA, lookV, lookVs, lookParts, adrOk, baseAt, baseOf, loadAt, partA, binA, unA, resOf, mkRes, envOf, List.range, List.range.loop, evalBuiltin, liveW, regOf, startE, optN, mapGet, mapPut, orZero, keyOk, cellOk, decide_eq_true_eq, Bool.not_eq_true', decide_eq_false_iff_not, ite_not, not_true_eq_false, not_false_eq_true, reduceCtorEq, and_true, true_and, and_self, gt_iff_lt, hl, h43, a2, key0, a4', a5, a6, a7, hel, hk, hce, Bool.false_eq_true, if_false, if_true, Bool.not_true, Bool.not_false]
      · rw [if_neg a3] at key0
        rw [if_neg a3]
        generalize firstE (pairErr l n) l.length 0 = q at *
        generalize l.map pairA = A at *
        simp (config := { maxSteps := 4000000 }) only [Tryz.f33, go_sem, Nat.reduceBEq, Nat.reduceAdd, Nat.reduceSub, Nat.reduceEqDiff, Nat.reduceLeDiff, Nat.reduceMul, rgT, z_regionT, allocs, isv?, z_step, z_stepE, okDst, wantedA, evalOp, evalV, evalS, storeAt, look, ofV, ofC, putA, clearA, lookV, lookVs, lookParts, adrOk, baseAt, baseOf, loadAt, partA, binA, unA, resOf, mkRes, envOf, List.range, List.range.loop, evalBuiltin, liveW, regOf, startE, optN, mapGet, mapPut, orZero, keyOk, cellOk, decide_eq_true_eq, Bool.not_eq_true', decide_eq_false_iff_not, ite_not, not_true_eq_false, not_false_eq_true, reduceCtorEq, and_true, true_and, and_self, gt_iff_lt, hl, h43, a2, key0]
  · rw [if_pos a1]
    rw [decide_eq_false a1] at h43
    generalize l.map pairA = A at *
    simp (config := { maxSteps := 4000000 }) only [Tryz.f33, go_sem, Nat.reduceBEq, Nat.reduceAdd, Nat.reduceSub, Nat.reduceEqDiff, Nat.reduceLeDiff, Nat.reduceMul, rgT, z_regionT, allocs, isv?, z_step, z_stepE, okDst, wantedA, evalOp, evalV, evalS, storeAt, look, ofV, ofC, putA, clearA, lookV, lookVs, lookParts, adrOk, baseAt, baseOf, loadAt, partA, binA, unA, resOf, mkRes, envOf, List.range, List.range.loop, evalBuiltin, liveW, regOf, startE, optN, mapGet, mapPut, orZero, keyOk, cellOk, decide_eq_true_eq, Bool.not_eq_true', decide_eq_false_iff_not, ite_not, not_true_eq_false, not_false_eq_true, reduceCtorEq, and_true, true_and, and_self, gt_iff_lt, hl, h43]

end Go.Can

namespace Go.Can
open Go Go.Proofs

set_option maxRecDepth 100000 in
set_option maxHeartbeats 16000000 in
theorem loop15 {σ : St} {fl : Bool} {l : List PD} {n : Int} (hlen : l.length < 2^63) : ∀ c (i : Nat) (zero : Bool), i + c = l.length →
    loopM Tryz.prog cfI 39 σ.length (loopOf Tryz.f39 7) (envS 63 [(0, .val (.list fl 2 (l.map pairA))), (1, .val (.int .i64 n)), (5, .val (.bool zero)), (6, .val (.int .i64 i))], σ) =
    if firstE (pairErr l n) c i = 0 then some (.exit 0, envS 63 [(5, .val (.bool (zero || (l.drop i).any (fun p => decide (p = (0, 0))))))], σ) else some (.ret, envS 63 [(4, .val (.int .i64 (firstE (pairErr l n) c i)))], σ) := by
  have hl : lenS (.list fl 2 (l.map pairA)) = some l.length := by simp [lenS]
  intro c
  induction c with
  | zero =>
    intro i zero hi
    have hi' : ¬ ((i : Int) < l.length) := by omega
    have hd : l.drop i = [] := List.drop_eq_nil_of_le (by omega)
    rw [loopM_step (by kernel_rfl), hd]
    simp only [loopOf, findLoop, regOf, Option.getD, envOf, List.range, List.range.loop, go_sem, Nat.reduceBEq, Nat.reduceEqDiff, Option.some.injEq, reduceCtorEq, envS, Tryz.f39]
    generalize l.map pairA = A at *
    simp only [go_sem, Nat.reduceBEq, Nat.reduceAdd, Nat.reduceSub, Nat.reduceEqDiff, Nat.reduceLeDiff, Nat.reduceMul, rgT, z_regionT, allocs, isv?, z_step, z_stepE, okDst, wantedA, evalOp, evalV, evalS, storeAt, look, ofV, ofC, putA, clearA, lookV, lookVs, lookParts, adrOk, baseAt, baseOf, loadAt, partA, binA, unA, resOf, mkRes, envOf, List.range, List.range.loop, evalBuiltin, liveW, regOf, startE, optN, mapGet, mapPut, orZero, keyOk, cellOk, decide_eq_true_eq, Bool.not_eq_true', decide_eq_false_iff_not, ite_not, not_true_eq_false, not_false_eq_true, reduceCtorEq, and_true, true_and, and_self, envS, hl, hi', firstE, if_true, List.any_nil, Bool.or_false]
  | succ c ih =>
    intro i zero hi
    have hlt : i < l.length := by omega
    obtain ⟨⟨y1, y2⟩, hd, hel, hget⟩ := drop_at pairA hlt
    have heq : pAt l i = (y1, y2) := by unfold pAt; rw [List.getD_eq_getElem?_getD, hget]; rfl
    have hw := w_inc hlt (by omega)
    have h0i : (0 : Int) ≤ (i : Int) := by omega
    have hlt' : (i : Int) < (l.length : Int) := by omega
    have ih' := ih (i + 1) (zero || decide ((y1, y2) = ((0, 0) : Int × Int))) (by omega)
    have hpq := fun hz => prevP_at (l := l) hlen hlt hz
    rw [loopM_step (by kernel_rfl), hd, List.any_cons, ← Bool.or_assoc]
    simp only [loopOf, findLoop, regOf, Option.getD, envOf, List.range, List.range.loop, go_sem, Nat.reduceBEq, Nat.reduceEqDiff, Option.some.injEq, reduceCtorEq, envS, Tryz.f39] at ih' ⊢
    unfold firstE
    replace hel : (l.map pairA)[i]? = some (.agg [.int .i64 y1, .int .i64 y2]) := hel
    clear ih hget hd
    generalize l.map pairA = A at *
    generalize (l.drop (i + 1)).any _ = rest at *
    have n4 : ¬ ((4 : Int) = 0) := by decide
    have n13 : ¬ ((13 : Int) = 0) := by decide
    cases hR : inR (pAt l i) n with
    | false =>
      have hR2 : inR (y1, y2) n = false := by rw [← heq]; exact hR
      rw [pairErr_range hR]
      simp only [n4, if_false]
      simp (config := { maxSteps := 4000000 }) only [go_sem, Nat.reduceBEq, Nat.reduceAdd, Nat.reduceSub, Nat.reduceEqDiff, Nat.reduceLeDiff, Nat.reduceMul, rgT, z_regionT, allocs, isv?, z_step, z_stepE, okDst, wantedA, evalOp, evalV, evalS, storeAt, look, ofV, ofC, putA, clearA, lookV, lookVs, lookParts, adrOk, baseAt, baseOf, loadAt, partA, binA, unA, resOf, mkRes, envOf, List.range, List.range.loop, evalBuiltin, liveW, regOf, startE, optN, mapGet, mapPut, orZero, keyOk, cellOk, decide_eq_true_eq, Bool.not_eq_true', decide_eq_false_iff_not, ite_not, not_true_eq_false, not_false_eq_true, reduceCtorEq, and_true, true_and, and_self, envS, gt_iff_lt, ge_iff_le, hlt', h0i, hl, hel, hw, c33', hR2]
    | true =>
      have hR2 : inR (y1, y2) n = true := by rw [← heq]; exact hR
      have hz0 : (zero = true ∨ zero = false) := by cases zero <;> simp
      by_cases z : i = 0
      · have he : pairErr l n i = 0 := by subst z; exact pairErr_zero hR
        have hz : ¬ (0 : Int) < (i : Int) := by omega
        rw [he, if_pos rfl]
        cases zero with
        | true =>
          simp only [Bool.true_or] at ih' ⊢
          simp (config := { maxSteps := 4000000 }) only [go_sem, Nat.reduceBEq, Nat.reduceAdd, Nat.reduceSub, Nat.reduceEqDiff, Nat.reduceLeDiff, Nat.reduceMul, rgT, z_regionT, allocs, isv?, z_step, z_stepE, okDst, wantedA, evalOp, evalV, evalS, storeAt, look, ofV, ofC, putA, clearA, lookV, lookVs, lookParts, adrOk, baseAt, baseOf, loadAt, partA, binA, unA, resOf, mkRes, envOf, List.range, List.range.loop, evalBuiltin, liveW, regOf, startE, optN, mapGet, mapPut, orZero, keyOk, cellOk, decide_eq_true_eq, Bool.not_eq_true', decide_eq_false_iff_not, ite_not, not_true_eq_false, not_false_eq_true, reduceCtorEq, and_true, true_and, and_self, envS, gt_iff_lt, ge_iff_le, hlt', h0i, hl, hel, hw, c33', hR2, hz, ih']
        | false =>
          simp only [Bool.false_or] at ih' ⊢
          by_cases b1 : y1 = 0
          · by_cases b2 : y2 = 0
            · have hd : decide ((y1, y2) = ((0, 0) : Int × Int)) = true := by rw [b1, b2]; rfl
              rw [hd] at ih' ⊢
              subst b1
              subst b2
              clear hd
              simp (config := { maxSteps := 4000000 }) only [go_sem, Nat.reduceBEq, Nat.reduceAdd, Nat.reduceSub, Nat.reduceEqDiff, Nat.reduceLeDiff, Nat.reduceMul, rgT, z_regionT, allocs, isv?, z_step, z_stepE, okDst, wantedA, evalOp, evalV, evalS, storeAt, look, ofV, ofC, putA, clearA, lookV, lookVs, lookParts, adrOk, baseAt, baseOf, loadAt, partA, binA, unA, resOf, mkRes, envOf, List.range, List.range.loop, evalBuiltin, liveW, regOf, startE, optN, mapGet, mapPut, orZero, keyOk, cellOk, decide_eq_true_eq, Bool.not_eq_true', decide_eq_false_iff_not, ite_not, not_true_eq_false, not_false_eq_true, reduceCtorEq, and_true, true_and, and_self, envS, gt_iff_lt, ge_iff_le, hlt', h0i, hl, hel, hw, c33', hR2, hz, ih']
            · have hd : decide ((y1, y2) = ((0, 0) : Int × Int)) = false := by simp [b2]
              rw [hd] at ih' ⊢
              subst b1
              clear hd
              simp (config := { maxSteps := 4000000 }) only [go_sem, Nat.reduceBEq, Nat.reduceAdd, Nat.reduceSub, Nat.reduceEqDiff, Nat.reduceLeDiff, Nat.reduceMul, rgT, z_regionT, allocs, isv?, z_step, z_stepE, okDst, wantedA, evalOp, evalV, evalS, storeAt, look, ofV, ofC, putA, clearA, lookV, lookVs, lookParts, adrOk, baseAt, baseOf, loadAt, partA, binA, unA, resOf, mkRes, envOf, List.range, List.range.loop, evalBuiltin, liveW, regOf, startE, optN, mapGet, mapPut, orZero, keyOk, cellOk, decide_eq_true_eq, Bool.not_eq_true', decide_eq_false_iff_not, ite_not, not_true_eq_false, not_false_eq_true, reduceCtorEq, and_true, true_and, and_self, envS, gt_iff_lt, ge_iff_le, hlt', h0i, hl, hel, hw, c33', hR2, hz, ih', b2]
          · have hd : decide ((y1, y2) = ((0, 0) : Int × Int)) = false := by simp [b1]
            rw [hd] at ih' ⊢
            clear hd
            simp (config := { maxSteps := 4000000 }) only [go_sem, Nat.reduceBEq, Nat.reduceAdd, Nat.reduceSub, Nat.reduceEqDiff, Nat.reduceLeDiff, Nat.reduceMul, rgT, z_regionT, allocs, isv?, z_step, z_stepE, okDst, wantedA, evalOp, evalV, evalS, storeAt, look, ofV, ofC, putA, clearA, lookV, lookVs, lookParts, adrOk, baseAt, baseOf, loadAt, partA, binA, unA, resOf, mkRes, envOf, List.range, List.range.loop, evalBuiltin, liveW, regOf, startE, optN, mapGet, mapPut, orZero, keyOk, cellOk, decide_eq_true_eq, Bool.not_eq_true', decide_eq_false_iff_not, ite_not, not_true_eq_false, not_false_eq_true, reduceCtorEq, and_true, true_and, and_self, envS, gt_iff_lt, ge_iff_le, hlt', h0i, hl, hel, hw, c33', hR2, hz, ih', b1]
      · obtain ⟨q1, q2, hq, hqel, hqw⟩ := hpq z
        have hz : (0 : Int) < (i : Int) := by omega
        rw [pairErr_next hR z, heq, hq]
        by_cases ho : ltP (q1, q2) (y1, y2) = true
        · rw [if_pos ho, if_pos rfl]
          cases zero with
          | true =>
            simp only [Bool.true_or] at ih' ⊢
            simp (config := { maxSteps := 4000000 }) only [go_sem, Nat.reduceBEq, Nat.reduceAdd, Nat.reduceSub, Nat.reduceEqDiff, Nat.reduceLeDiff, Nat.reduceMul, rgT, z_regionT, allocs, isv?, z_step, z_stepE, okDst, wantedA, evalOp, evalV, evalS, storeAt, look, ofV, ofC, putA, clearA, lookV, lookVs, lookParts, adrOk, baseAt, baseOf, loadAt, partA, binA, unA, resOf, mkRes, envOf, List.range, List.range.loop, evalBuiltin, liveW, regOf, startE, optN, mapGet, mapPut, orZero, keyOk, cellOk, decide_eq_true_eq, Bool.not_eq_true', decide_eq_false_iff_not, ite_not, not_true_eq_false, not_false_eq_true, reduceCtorEq, and_true, true_and, and_self, envS, gt_iff_lt, ge_iff_le, hlt', h0i, hl, hel, hw, c33', hR2, hz, hqel, hqw, c34', ho, ih']
          | false =>
            simp only [Bool.false_or] at ih' ⊢
            by_cases b1 : y1 = 0
            · by_cases b2 : y2 = 0
              · have hd : decide ((y1, y2) = ((0, 0) : Int × Int)) = true := by rw [b1, b2]; rfl
                rw [hd] at ih' ⊢
                subst b1
                subst b2
                clear hd
                simp (config := { maxSteps := 4000000 }) only [go_sem, Nat.reduceBEq, Nat.reduceAdd, Nat.reduceSub, Nat.reduceEqDiff, Nat.reduceLeDiff, Nat.reduceMul, rgT, z_regionT, allocs, isv?, z_step, z_stepE, okDst, wantedA, evalOp, evalV, evalS, storeAt, look, ofV, ofC, putA, clearA, lookV, lookVs, lookParts, adrOk, baseAt, baseOf, loadAt, partA, binA, unA, resOf, mkRes, envOf, List.range, List.range.loop, evalBuiltin, liveW, regOf, startE, optN, mapGet, mapPut, orZero, keyOk, cellOk, decide_eq_true_eq, Bool.not_eq_true', decide_eq_false_iff_not, ite_not, not_true_eq_false, not_false_eq_true, reduceCtorEq, and_true, true_and, and_self, envS, gt_iff_lt, ge_iff_le, hlt', h0i, hl, hel, hw, c33', hR2, hz, hqel, hqw, c34', ho, ih']
              · have hd : decide ((y1, y2) = ((0, 0) : Int × Int)) = false := by simp [b2]
                rw [hd] at ih' ⊢
                subst b1
                clear hd
                simp (config := { maxSteps := 4000000 }) only [go_sem, Nat.reduceBEq, Nat.reduceAdd, Nat.reduceSub, Nat.reduceEqDiff, Nat.reduceLeDiff, Nat.reduceMul, rgT, z_regionT, allocs, isv?, z_step, z_stepE, okDst, wantedA, evalOp, evalV, evalS, storeAt, look, ofV, ofC, putA, clearA, lookV, lookVs, lookParts, adrOk, baseAt, baseOf, loadAt, partA, binA, unA, resOf, mkRes, envOf, List.range, List.range.loop, evalBuiltin, liveW, regOf, startE, optN, mapGet, mapPut, orZero, keyOk, cellOk, decide_eq_true_eq, Bool.not_eq_true', decide_eq_false_iff_not, ite_not, not_true_eq_false, not_false_eq_true, reduceCtorEq, and_true, true_and, and_self, envS, gt_iff_lt, ge_iff_le, hlt', h0i, hl, hel, hw, c33', hR2, hz, hqel, hqw, c34', ho, ih', b2]
            · have hd : decide ((y1, y2) = ((0, 0) : Int × Int)) = false := by simp [b1]
              rw [hd] at ih' ⊢
              clear hd
              simp (config := { maxSteps := 4000000 }) only [go_sem, Nat.reduceBEq, Nat.reduceAdd, Nat.reduceSub, Nat.reduceEqDiff, Nat.reduceLeDiff, Nat.reduceMul, rgT, z_regionT, allocs, isv?, z_step, z_stepE, okDst, wantedA, evalOp, evalV, evalS, storeAt, look, ofV, ofC, putA, clearA, lookV, lookVs, lookParts, adrOk, baseAt, baseOf, loadAt, partA, binA, unA, resOf, mkRes, envOf, List.range, List.range.loop, evalBuiltin, liveW, regOf, startE, optN, mapGet, mapPut, orZero, keyOk, cellOk, decide_eq_true_eq, Bool.not_eq_true', decide_eq_false_iff_not, ite_not, not_true_eq_false, not_false_eq_true, reduceCtorEq, and_true, true_and, and_self, envS, gt_iff_lt, ge_iff_le, hlt', h0i, hl, hel, hw, c33', hR2, hz, hqel, hqw, c34', ho, ih', b1]
        · have ho2 : ltP (q1, q2) (y1, y2) = false := Bool.eq_false_iff.2 ho
          rw [if_neg ho]
          simp only [n13, if_false]
          simp (config := { maxSteps := 4000000 }) only [go_sem, Nat.reduceBEq, Nat.reduceAdd, Nat.reduceSub, Nat.reduceEqDiff, Nat.reduceLeDiff, Nat.reduceMul, rgT, z_regionT, allocs, isv?, z_step, z_stepE, okDst, wantedA, evalOp, evalV, evalS, storeAt, look, ofV, ofC, putA, clearA, lookV, lookVs, lookParts, adrOk, baseAt, baseOf, loadAt, partA, binA, unA, resOf, mkRes, envOf, List.range, List.range.loop, evalBuiltin, liveW, regOf, startE, optN, mapGet, mapPut, orZero, keyOk, cellOk, decide_eq_true_eq, Bool.not_eq_true', decide_eq_false_iff_not, ite_not, not_true_eq_false, not_false_eq_true, reduceCtorEq, and_true, true_and, and_self, envS, gt_iff_lt, ge_iff_le, hlt', h0i, hl, hel, hw, c33', hR2, hz, hqel, hqw, c34', ho2]

set_option maxRecDepth 100000 in
set_option maxHeartbeats 16000000 in
theorem c15 {σ : St} {base : Nat} {fl : Bool} {l : List PD} {n : Int} :
    callL Tryz.prog cfI 39 [.list fl 2 (l.map pairA), .int .i64 n] σ base = some (.int .i64 (flowErr l n), σ) := by
  have hl : lenS (.list fl 2 (l.map pairA)) = some l.length := by simp [lenS]
  refine callL_pure (σ' := σ) (v := .int .i64 (flowErr l n)) Tryz.func39 rfl (by kernel_rfl) rfl rfl (by simp) ?_ rfl
  rw [z_body]
  unfold flowErr
  by_cases b1 : n < 1
  · rw [if_pos (by omega)]
    generalize l.map pairA = A at *
    simp (config := { maxSteps := 4000000 }) only [Tryz.f39, go_sem, Nat.reduceBEq, Nat.reduceAdd, Nat.reduceSub, Nat.reduceEqDiff, Nat.reduceLeDiff, Nat.reduceMul, rgT, z_regionT, allocs, isv?, z_step, z_stepE, okDst, wantedA, evalOp, evalV, evalS, storeAt, look, ofV, ofC, putA, clearA, lookV, lookVs, lookParts, adrOk, baseAt, baseOf, loadAt, partA, binA, unA, resOf, mkRes, envOf, List.range, List.range.loop, evalBuiltin, liveW, regOf, startE, optN, mapGet, mapPut, orZero, keyOk, cellOk, decide_eq_true_eq, Bool.not_eq_true', decide_eq_false_iff_not, ite_not, not_true_eq_false, not_false_eq_true, reduceCtorEq, and_true, true_and, and_self, gt_iff_lt, hl, b1]
  by_cases b2 : 1024 < n
  · rw [if_pos (by omega)]
    generalize l.map pairA = A at *
    simp (config := { maxSteps := 4000000 }) only [Tryz.f39, go_sem, Nat.reduceBEq, Nat.reduceAdd, Nat.reduceSub, Nat.reduceEqDiff, Nat.reduceLeDiff, Nat.reduceMul, rgT, z_regionT, allocs, isv?, z_step, z_stepE, okDst, wantedA, evalOp, evalV, evalS, storeAt, look, ofV, ofC, putA, clearA, lookV, lookVs, lookParts, adrOk, baseAt, baseOf, loadAt, partA, binA, unA, resOf, mkRes, envOf, List.range, List.range.loop, evalBuiltin, liveW, regOf, startE, optN, mapGet, mapPut, orZero, keyOk, cellOk, decide_eq_true_eq, Bool.not_eq_true', decide_eq_false_iff_not, ite_not, not_true_eq_false, not_false_eq_true, reduceCtorEq, and_true, true_and, and_self, gt_iff_lt, hl, b1, b2]
  rw [if_neg (by omega)]
  by_cases a2 : 8192 < (l.length : Int)
  · rw [if_pos (by omega)]
    generalize l.map pairA = A at *
    simp (config := { maxSteps := 4000000 }) only [Tryz.f39, go_sem, Nat.reduceBEq, Nat.reduceAdd, Nat.reduceSub, Nat.reduceEqDiff, Nat.reduceLeDiff, Nat.reduceMul, rgT, z_regionT, allocs, isv?, z_step, z_stepE, okDst, wantedA, evalOp, evalV, evalS, storeAt, look, ofV, ofC, putA, clearA, lookV, lookVs, lookParts, adrOk, baseAt, baseOf, loadAt, partA, binA, unA, resOf, mkRes, envOf, List.range, List.range.loop, evalBuiltin, liveW, regOf, startE, optN, mapGet, mapPut, orZero, keyOk, cellOk, decide_eq_true_eq, Bool.not_eq_true', decide_eq_false_iff_not, ite_not, not_true_eq_false, not_false_eq_true, reduceCtorEq, and_true, true_and, and_self, gt_iff_lt, hl, b1, b2, a2]
  rw [if_neg (by omega)]
  have key0 := loop15 (σ := σ) (fl := fl) (l := l) (n := n) (by omega) l.length 0 false (by omega)
  rw [show ((0 : Nat) : Int) = 0 from rfl, List.drop_zero, Bool.false_or] at key0
  simp only [loopOf, findLoop, regOf, Option.getD, envOf, List.range, List.range.loop, go_sem, Nat.reduceBEq, Nat.reduceEqDiff, Option.some.injEq, reduceCtorEq, envS, Tryz.f39] at key0
  generalize (l.any fun p => decide (p = (0, 0))) = t at *
  generalize firstE (pairErr l n) l.length 0 = q at *
  generalize l.map pairA = A at *
  by_cases a3 : q = 0
  · rw [if_pos a3] at key0
    rw [if_pos a3]
    cases t <;> simp (config := { maxSteps := 4000000 }) only [Tryz.f39, go_sem, Nat.reduceBEq, Nat.reduceAdd, Nat.reduceSub, Nat.reduceEqDiff, Nat.reduceLeDiff, Nat.reduceMul, rgT, z_regionT, allocs, isv?, z_step, z_stepE, okDst, wantedA, evalOp, evalV, evalS, storeAt, look, ofV, ofC, putA, clearA, lookV, lookVs, lookParts, adrOk, baseAt, baseOf, loadAt, partA, binA, unA, resOf, mkRes, envOf, List.range, List.range.loop, evalBuiltin, liveW, regOf, startE, optN, mapGet, mapPut, orZero, keyOk, cellOk, decide_eq_true_eq, Bool.not_eq_true', decide_eq_false_iff_not, ite_not, not_true_eq_false, not_false_eq_true, reduceCtorEq, and_true, true_and, and_self, gt_iff_lt, hl, b1, b2, a2, key0, Bool.false_eq_true, if_false, if_true, Bool.not_true, Bool.not_false]
  · rw [if_neg a3] at key0
    rw [if_neg a3]
    simp (config := { maxSteps := 4000000 }) only [Tryz.f39, go_sem, Nat.reduceBEq, Nat.reduceAdd, Nat.reduceSub, Nat.reduceEqDiff, Nat.reduceLeDiff, Nat.reduceMul, rgT, z_regionT, allocs, isv?, z_step, z_stepE, okDst, wantedA, evalOp, evalV, evalS, storeAt, look, ofV, ofC, putA, clearA, lookV, lookVs, lookParts, adrOk, baseAt, baseOf, loadAt, partA, binA, unA, resOf, mkRes, envOf, List.range, List.range.loop, evalBuiltin, liveW, regOf, startE, optN, mapGet, mapPut, orZero, keyOk, cellOk, decide_eq_true_eq, Bool.not_eq_true', decide_eq_false_iff_not, ite_not, not_true_eq_false, not_false_eq_true, reduceCtorEq, and_true, true_and, and_self, gt_iff_lt, hl, b1, b2, a2, key0]

end Go.Can
