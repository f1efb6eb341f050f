/- Contracts: the error of an edge. -/
import Derived.Test.YtjmljgajhkbciaaGreatIfdsD
import Derived.Test.YtjmljgajhkbciaaGreatIfdsC7
import Derived.Test.YtjmljgajhkbciaaGreatIfdsC4
set_option linter.unusedSimpArgs false
set_option linter.unusedVariables false
namespace Go.Can
open Go Go.Proofs

theorem c62' {σ : St} {base : Nat} {a1 a2 a3 a4 b1 b2 b3 b4 : Int} : callL Tryz.prog cfI 77 [.agg [.int .i64 a1, .int .i64 a2, .int .i64 a3, .int .i64 a4], .agg [.int .i64 b1, .int .i64 b2, .int .i64 b3, .int .i64 b4]] σ base = some (.int .i64 (cmpE (a1, a2, a3, a4) (b1, b2, b3, b4)), σ) := c62 (a := (a1, a2, a3, a4)) (b := (b1, b2, b3, b4))

theorem c63' {σ : St} {base : Nat} {nv ev : AV} {ns : List ND} {e1 e2 e3 e4 m : Int} {en : Int → Int → Bool} (hs : Sl σ 3 nv (ns.map nodeA)) (he : (Slot.val ev).v = some ev) (hok : EdgeOk ns (e1, e2, e3, e4))
    (hen : ∀ b c f, callL Tryz.prog cfI 97 [.agg [nv, ev, .int .i64 m], .int .i64 c, .int .i64 f] σ b = some (.bool (en c f), σ)) :
    callL Tryz.prog cfI 78 [.agg [nv, ev, .int .i64 m], .agg [.int .i64 e1, .int .i64 e2, .int .i64 e3, .int .i64 e4]] σ base = some (.bool (fitsB ns en (e1, e2, e3, e4)), σ) := c63 (e := (e1, e2, e3, e4)) hs he hok hen

theorem prev_at {es : List ED} {i : Nat} (hlen : es.length < 2^62) (hi : i < es.length) (hz : ¬ i = 0) :
    ∃ q1 q2 q3 q4, prevE es i = some (q1, q2, q3, q4) ∧ (es.map edgeA)[(IntKind.i64.wrap ((i : Int) - 1)).toNat]? = some (.agg [.int .i64 q1, .int .i64 q2, .int .i64 q3, .int .i64 q4]) ∧ (0 ≤ IntKind.i64.wrap ((i : Int) - 1) ∧ IntKind.i64.wrap ((i : Int) - 1) < (es.length : Int)) := by
  have hw : IntKind.i64.wrap ((i : Int) - 1) = ((i - 1 : Nat) : Int) := by rw [wrap_i64] <;> omega
  have h1 : i - 1 < es.length := by omega
  obtain ⟨⟨q1, q2, q3, q4⟩, _, h2, h3⟩ := drop_at edgeA h1
  refine ⟨q1, q2, q3, q4, ?_, ?_, ?_⟩
  · unfold prevE eAt
    rw [if_neg hz, List.getD_eq_getElem?_getD, h3]
    rfl
  · rw [hw, Int.toNat_natCast, h2]; rfl
  · rw [hw]; omega

set_option maxRecDepth 100000 in
set_option maxHeartbeats 16000000 in
theorem c42 {σ : St} {base : Nat} {nv ev : AV} {ns : List ND} {es : List ED} {m : Int} {i : Nat} {en : Int → Int → Bool} (hs : Sl σ 3 nv (ns.map nodeA)) (he : Sl σ 4 ev (es.map edgeA)) (hlen : es.length < 2^62) (hi : i < es.length)
    (hen : (∀ q, prevE es i = some q → ltE q (eAt es i) = true) → ∀ b c f, callL Tryz.prog cfI 97 [.agg [nv, ev, .int .i64 m], .int .i64 c, .int .i64 f] σ b = some (.bool (en c f), σ)) :
    callL Tryz.prog cfI 53 [.agg [nv, ev, .int .i64 m], .int .i64 i] σ base = some (.int .i64 (errAt ns es en i), σ) := by
  have hl := hs.len
  have hv := hs.v
  have hel0 := hs.el
  have hl2 := he.len
  have hv2 := he.v
  have hel2 := he.el
  rw [List.length_map] at hl hl2
  obtain ⟨⟨e1, e2, e3, e4⟩, _, hel, hget⟩ := drop_at edgeA hi
  have heq : eAt es i = (e1, e2, e3, e4) := by unfold eAt; rw [List.getD_eq_getElem?_getD, hget]; rfl
  have hi1 : (0 : Int) ≤ (i : Int) := by omega
  have hi2 : (i : Int) < (es.length : Int) := by omega
  refine callL_pure (σ' := σ) (v := .int .i64 (errAt ns es en i)) Tryz.func53 rfl (by kernel_rfl) rfl rfl (by simp) ?_ rfl
  rw [z_body]
  unfold errAt
  rw [heq] at hen ⊢
  have hpq := fun hz => prev_at (es := es) hlen hi hz
  replace hel : (es.map edgeA)[i]? = some (.agg [.int .i64 e1, .int .i64 e2, .int .i64 e3, .int .i64 e4]) := hel
  have hlB : (List.map nodeA ns).length = ns.length := by simp
  generalize es.map edgeA = A at *
  by_cases a1 : e1 < 0
  · rw [edgeErr_range (by simp only; omega)]
    simp (config := { maxSteps := 4000000 }) only [Tryz.f53, go_sem, Nat.reduceBEq, Nat.reduceAdd, Nat.reduceSub, Nat.reduceEqDiff, Nat.reduceLeDiff, Nat.reduceMul, rgT, z_regionT, allocs, isv?, z_step, z_stepE, okDst, wantedA, evalOp, evalV, evalS, storeAt, look, ofV, ofC, putA, clearA, lookV, lookVs, lookParts, adrOk, baseAt, baseOf, loadAt, partA, binA, unA, resOf, mkRes, envOf, List.range, List.range.loop, evalBuiltin, liveW, regOf, startE, optN, mapGet, mapPut, orZero, keyOk, cellOk, decide_eq_true_eq, Bool.not_eq_true', decide_eq_false_iff_not, ite_not, not_true_eq_false, not_false_eq_true, reduceCtorEq, and_true, true_and, and_self, Int.reduceLT, Int.reduceLE, Int.reduceEq, ge_iff_le, gt_iff_lt, hl, hv, hl2, hv2, hel0, hel2, hel, hi1, hi2, a1]
  by_cases a2 : (ns.length : Int) ≤ e1
  · rw [edgeErr_range (by simp only; omega)]
    simp (config := { maxSteps := 4000000 }) only [Tryz.f53, go_sem, Nat.reduceBEq, Nat.reduceAdd, Nat.reduceSub, Nat.reduceEqDiff, Nat.reduceLeDiff, Nat.reduceMul, rgT, z_regionT, allocs, isv?, z_step, z_stepE, okDst, wantedA, evalOp, evalV, evalS, storeAt, look, ofV, ofC, putA, clearA, lookV, lookVs, lookParts, adrOk, baseAt, baseOf, loadAt, partA, binA, unA, resOf, mkRes, envOf, List.range, List.range.loop, evalBuiltin, liveW, regOf, startE, optN, mapGet, mapPut, orZero, keyOk, cellOk, decide_eq_true_eq, Bool.not_eq_true', decide_eq_false_iff_not, ite_not, not_true_eq_false, not_false_eq_true, reduceCtorEq, and_true, true_and, and_self, Int.reduceLT, Int.reduceLE, Int.reduceEq, ge_iff_le, gt_iff_lt, hl, hv, hl2, hv2, hel0, hel2, hel, hi1, hi2, a1, a2]
  by_cases a3 : e2 < 0
  · rw [edgeErr_range (by simp only; omega)]
    simp (config := { maxSteps := 4000000 }) only [Tryz.f53, go_sem, Nat.reduceBEq, Nat.reduceAdd, Nat.reduceSub, Nat.reduceEqDiff, Nat.reduceLeDiff, Nat.reduceMul, rgT, z_regionT, allocs, isv?, z_step, z_stepE, okDst, wantedA, evalOp, evalV, evalS, storeAt, look, ofV, ofC, putA, clearA, lookV, lookVs, lookParts, adrOk, baseAt, baseOf, loadAt, partA, binA, unA, resOf, mkRes, envOf, List.range, List.range.loop, evalBuiltin, liveW, regOf, startE, optN, mapGet, mapPut, orZero, keyOk, cellOk, decide_eq_true_eq, Bool.not_eq_true', decide_eq_false_iff_not, ite_not, not_true_eq_false, not_false_eq_true, reduceCtorEq, and_true, true_and, and_self, Int.reduceLT, Int.reduceLE, Int.reduceEq, ge_iff_le, gt_iff_lt, hl, hv, hl2, hv2, hel0, hel2, hel, hi1, hi2, a1, a2, a3]
  by_cases a4 : (ns.length : Int) ≤ e2
  · rw [edgeErr_range (by simp only; omega)]
    simp (config := { maxSteps := 4000000 }) only [Tryz.f53, go_sem, Nat.reduceBEq, Nat.reduceAdd, Nat.reduceSub, Nat.reduceEqDiff, Nat.reduceLeDiff, Nat.reduceMul, rgT, z_regionT, allocs, isv?, z_step, z_stepE, okDst, wantedA, evalOp, evalV, evalS, storeAt, look, ofV, ofC, putA, clearA, lookV, lookVs, lookParts, adrOk, baseAt, baseOf, loadAt, partA, binA, unA, resOf, mkRes, envOf, List.range, List.range.loop, evalBuiltin, liveW, regOf, startE, optN, mapGet, mapPut, orZero, keyOk, cellOk, decide_eq_true_eq, Bool.not_eq_true', decide_eq_false_iff_not, ite_not, not_true_eq_false, not_false_eq_true, reduceCtorEq, and_true, true_and, and_self, Int.reduceLT, Int.reduceLE, Int.reduceEq, ge_iff_le, gt_iff_lt, hl, hv, hl2, hv2, hel0, hel2, hel, hi1, hi2, a1, a2, a3, a4]
  have b0 : ¬ (e1 < 0 ∨ (ns.length : Int) ≤ e1 ∨ e2 < 0 ∨ (ns.length : Int) ≤ e2) := by omega
  by_cases a5 : e3 < 1
  · rw [edgeErr_kind b0 (by simp only; omega)]
    simp (config := { maxSteps := 4000000 }) only [Tryz.f53, go_sem, Nat.reduceBEq, Nat.reduceAdd, Nat.reduceSub, Nat.reduceEqDiff, Nat.reduceLeDiff, Nat.reduceMul, rgT, z_regionT, allocs, isv?, z_step, z_stepE, okDst, wantedA, evalOp, evalV, evalS, storeAt, look, ofV, ofC, putA, clearA, lookV, lookVs, lookParts, adrOk, baseAt, baseOf, loadAt, partA, binA, unA, resOf, mkRes, envOf, List.range, List.range.loop, evalBuiltin, liveW, regOf, startE, optN, mapGet, mapPut, orZero, keyOk, cellOk, decide_eq_true_eq, Bool.not_eq_true', decide_eq_false_iff_not, ite_not, not_true_eq_false, not_false_eq_true, reduceCtorEq, and_true, true_and, and_self, Int.reduceLT, Int.reduceLE, Int.reduceEq, ge_iff_le, gt_iff_lt, hl, hv, hl2, hv2, hel0, hel2, hel, hi1, hi2, a1, a2, a3, a4, a5]
  by_cases a6 : 5 < e3
  · rw [edgeErr_kind b0 (by simp only; omega)]
    simp (config := { maxSteps := 4000000 }) only [Tryz.f53, go_sem, Nat.reduceBEq, Nat.reduceAdd, Nat.reduceSub, Nat.reduceEqDiff, Nat.reduceLeDiff, Nat.reduceMul, rgT, z_regionT, allocs, isv?, z_step, z_stepE, okDst, wantedA, evalOp, evalV, evalS, storeAt, look, ofV, ofC, putA, clearA, lookV, lookVs, lookParts, adrOk, baseAt, baseOf, loadAt, partA, binA, unA, resOf, mkRes, envOf, List.range, List.range.loop, evalBuiltin, liveW, regOf, startE, optN, mapGet, mapPut, orZero, keyOk, cellOk, decide_eq_true_eq, Bool.not_eq_true', decide_eq_false_iff_not, ite_not, not_true_eq_false, not_false_eq_true, reduceCtorEq, and_true, true_and, and_self, Int.reduceLT, Int.reduceLE, Int.reduceEq, ge_iff_le, gt_iff_lt, hl, hv, hl2, hv2, hel0, hel2, hel, hi1, hi2, a1, a2, a3, a4, a5, a6]
  have b1 : ¬ (e3 < 1 ∨ 5 < e3) := by omega
  by_cases k1 : e3 = 1
  · subst k1
    by_cases c1 : e4 = -1
    · subst c1
      have hnum : EdgeNum ns (e1, e2, 1, -1) := ⟨⟨by simp only; omega, by simp only; omega, by first | (simp only; omega) | simp, fun h => absurd (by simp) h⟩, fun _ => rfl⟩
      by_cases z : i = 0
      · have hp : prevE es i = none := by unfold prevE; rw [if_pos z]
        have hz : ¬ (0 : Int) < (i : Int) := by omega
        have h63 := c63' (base := σ.length) (m := m) hs hv2 hnum.ok (hen (fun q hq => by rw [hp] at hq; cases hq))
        rw [hp, edgeErr_first hnum]
        generalize fitsB ns en (e1, e2, 1, -1) = t at *
        cases t <;> simp (config := { maxSteps := 4000000 }) only [Tryz.f53, go_sem, Nat.reduceBEq, Nat.reduceAdd, Nat.reduceSub, Nat.reduceEqDiff, Nat.reduceLeDiff, Nat.reduceMul, rgT, z_regionT, allocs, isv?, z_step, z_stepE, okDst, wantedA, evalOp, evalV, evalS, storeAt, look, ofV, ofC, putA, clearA, lookV, lookVs, lookParts, adrOk, baseAt, baseOf, loadAt, partA, binA, unA, resOf, mkRes, envOf, List.range, List.range.loop, evalBuiltin, liveW, regOf, startE, optN, mapGet, mapPut, orZero, keyOk, cellOk, decide_eq_true_eq, Bool.not_eq_true', decide_eq_false_iff_not, ite_not, not_true_eq_false, not_false_eq_true, reduceCtorEq, and_true, true_and, and_self, Int.reduceLT, Int.reduceLE, Int.reduceEq, ge_iff_le, gt_iff_lt, hl, hv, hl2, hv2, hel0, hel2, hel, hi1, hi2, a1, a2, a3, a4, hz, h63, if_true, Bool.false_eq_true, if_false]
      · obtain ⟨q1, q2, q3, q4, hq, hqel, hw⟩ := hpq z
        have hz : (0 : Int) < (i : Int) := by omega
        rw [hq, edgeErr_next hnum]
        by_cases ho : ltE (q1, q2, q3, q4) (e1, e2, 1, -1) = true
        · have h63 := c63' (base := σ.length) (m := m) hs hv2 hnum.ok (hen (fun q hq2 => by rw [hq] at hq2; cases hq2; exact ho))
          have hc : (0 ≤ cmpE (q1, q2, q3, q4) (e1, e2, 1, -1)) = False := eq_false (fun h => by rw [show (0 ≤ cmpE (q1, q2, q3, q4) (e1, e2, 1, -1)) = (cmpE (q1, q2, q3, q4) (e1, e2, 1, -1) ≥ 0) from rfl, cmpE_ge, ho] at h; cases h)
          rw [if_pos ho]
          generalize fitsB ns en (e1, e2, 1, -1) = t at *
          cases t <;> simp (config := { maxSteps := 4000000 }) only [Tryz.f53, go_sem, Nat.reduceBEq, Nat.reduceAdd, Nat.reduceSub, Nat.reduceEqDiff, Nat.reduceLeDiff, Nat.reduceMul, rgT, z_regionT, allocs, isv?, z_step, z_stepE, okDst, wantedA, evalOp, evalV, evalS, storeAt, look, ofV, ofC, putA, clearA, lookV, lookVs, lookParts, adrOk, baseAt, baseOf, loadAt, partA, binA, unA, resOf, mkRes, envOf, List.range, List.range.loop, evalBuiltin, liveW, regOf, startE, optN, mapGet, mapPut, orZero, keyOk, cellOk, decide_eq_true_eq, Bool.not_eq_true', decide_eq_false_iff_not, ite_not, not_true_eq_false, not_false_eq_true, reduceCtorEq, and_true, true_and, and_self, Int.reduceLT, Int.reduceLE, Int.reduceEq, ge_iff_le, gt_iff_lt, hl, hv, hl2, hv2, hel0, hel2, hel, hi1, hi2, a1, a2, a3, a4, hz, hw, hqel, c62', hc, h63, if_true, Bool.false_eq_true, if_false]
        · have hc : (0 ≤ cmpE (q1, q2, q3, q4) (e1, e2, 1, -1)) = True := eq_true (by rw [← ge_iff_le, cmpE_ge]; exact Bool.eq_false_iff.2 ho)
          rw [if_neg ho]
          simp (config := { maxSteps := 4000000 }) only [Tryz.f53, go_sem, Nat.reduceBEq, Nat.reduceAdd, Nat.reduceSub, Nat.reduceEqDiff, Nat.reduceLeDiff, Nat.reduceMul, rgT, z_regionT, allocs, isv?, z_step, z_stepE, okDst, wantedA, evalOp, evalV, evalS, storeAt, look, ofV, ofC, putA, clearA, lookV, lookVs, lookParts, adrOk, baseAt, baseOf, loadAt, partA, binA, unA, resOf, mkRes, envOf, List.range, List.range.loop, evalBuiltin, liveW, regOf, startE, optN, mapGet, mapPut, orZero, keyOk, cellOk, decide_eq_true_eq, Bool.not_eq_true', decide_eq_false_iff_not, ite_not, not_true_eq_false, not_false_eq_true, reduceCtorEq, and_true, true_and, and_self, Int.reduceLT, Int.reduceLE, Int.reduceEq, ge_iff_le, gt_iff_lt, hl, hv, hl2, hv2, hel0, hel2, hel, hi1, hi2, a1, a2, a3, a4, hz, hw, hqel, c62', hc, if_true]
    · rw [edgeErr_within b0 (by simp) c1]
      simp (config := { maxSteps := 4000000 }) only [Tryz.f53, go_sem, Nat.reduceBEq, Nat.reduceAdd, Nat.reduceSub, Nat.reduceEqDiff, Nat.reduceLeDiff, Nat.reduceMul, rgT, z_regionT, allocs, isv?, z_step, z_stepE, okDst, wantedA, evalOp, evalV, evalS, storeAt, look, ofV, ofC, putA, clearA, lookV, lookVs, lookParts, adrOk, baseAt, baseOf, loadAt, partA, binA, unA, resOf, mkRes, envOf, List.range, List.range.loop, evalBuiltin, liveW, regOf, startE, optN, mapGet, mapPut, orZero, keyOk, cellOk, decide_eq_true_eq, Bool.not_eq_true', decide_eq_false_iff_not, ite_not, not_true_eq_false, not_false_eq_true, reduceCtorEq, and_true, true_and, and_self, Int.reduceLT, Int.reduceLE, Int.reduceEq, ge_iff_le, gt_iff_lt, hl, hv, hl2, hv2, hel0, hel2, hel, hi1, hi2, a1, a2, a3, a4, c1]
  by_cases k5 : e3 = 5
  · subst k5
    by_cases c1 : e4 = -1
    · subst c1
      have hnum : EdgeNum ns (e1, e2, 5, -1) := ⟨⟨by simp only; omega, by simp only; omega, by first | (simp only; omega) | simp, fun h => absurd (by simp) h⟩, fun _ => rfl⟩
      by_cases z : i = 0
      · have hp : prevE es i = none := by unfold prevE; rw [if_pos z]
        have hz : ¬ (0 : Int) < (i : Int) := by omega
        have h63 := c63' (base := σ.length) (m := m) hs hv2 hnum.ok (hen (fun q hq => by rw [hp] at hq; cases hq))
        rw [hp, edgeErr_first hnum]
        generalize fitsB ns en (e1, e2, 5, -1) = t at *
        cases t <;> simp (config := { maxSteps := 4000000 }) only [Tryz.f53, go_sem, Nat.reduceBEq, Nat.reduceAdd, Nat.reduceSub, Nat.reduceEqDiff, Nat.reduceLeDiff, Nat.reduceMul, rgT, z_regionT, allocs, isv?, z_step, z_stepE, okDst, wantedA, evalOp, evalV, evalS, storeAt, look, ofV, ofC, putA, clearA, lookV, lookVs, lookParts, adrOk, baseAt, baseOf, loadAt, partA, binA, unA, resOf, mkRes, envOf, List.range, List.range.loop, evalBuiltin, liveW, regOf, startE, optN, mapGet, mapPut, orZero, keyOk, cellOk, decide_eq_true_eq, Bool.not_eq_true', decide_eq_false_iff_not, ite_not, not_true_eq_false, not_false_eq_true, reduceCtorEq, and_true, true_and, and_self, Int.reduceLT, Int.reduceLE, Int.reduceEq, ge_iff_le, gt_iff_lt, hl, hv, hl2, hv2, hel0, hel2, hel, hi1, hi2, a1, a2, a3, a4, hz, h63, if_true, Bool.false_eq_true, if_false]
      · obtain ⟨q1, q2, q3, q4, hq, hqel, hw⟩ := hpq z
        have hz : (0 : Int) < (i : Int) := by omega
        rw [hq, edgeErr_next hnum]
        by_cases ho : ltE (q1, q2, q3, q4) (e1, e2, 5, -1) = true
        · have h63 := c63' (base := σ.length) (m := m) hs hv2 hnum.ok (hen (fun q hq2 => by rw [hq] at hq2; cases hq2; exact ho))
          have hc : (0 ≤ cmpE (q1, q2, q3, q4) (e1, e2, 5, -1)) = False := eq_false (fun h => by rw [show (0 ≤ cmpE (q1, q2, q3, q4) (e1, e2, 5, -1)) = (cmpE (q1, q2, q3, q4) (e1, e2, 5, -1) ≥ 0) from rfl, cmpE_ge, ho] at h; cases h)
          rw [if_pos ho]
          generalize fitsB ns en (e1, e2, 5, -1) = t at *
          cases t <;> simp (config := { maxSteps := 4000000 }) only [Tryz.f53, go_sem, Nat.reduceBEq, Nat.reduceAdd, Nat.reduceSub, Nat.reduceEqDiff, Nat.reduceLeDiff, Nat.reduceMul, rgT, z_regionT, allocs, isv?, z_step, z_stepE, okDst, wantedA, evalOp, evalV, evalS, storeAt, look, ofV, ofC, putA, clearA, lookV, lookVs, lookParts, adrOk, baseAt, baseOf, loadAt, partA, binA, unA, resOf, mkRes, envOf, List.range, List.range.loop, evalBuiltin, liveW, regOf, startE, optN, mapGet, mapPut, orZero, keyOk, cellOk, decide_eq_true_eq, Bool.not_eq_true', decide_eq_false_iff_not, ite_not, not_true_eq_false, not_false_eq_true, reduceCtorEq, and_true, true_and, and_self, Int.reduceLT, Int.reduceLE, Int.reduceEq, ge_iff_le, gt_iff_lt, hl, hv, hl2, hv2, hel0, hel2, hel, hi1, hi2, a1, a2, a3, a4, hz, hw, hqel, c62', hc, h63, if_true, Bool.false_eq_true, if_false]
        · have hc : (0 ≤ cmpE (q1, q2, q3, q4) (e1, e2, 5, -1)) = True := eq_true (by rw [← ge_iff_le, cmpE_ge]; exact Bool.eq_false_iff.2 ho)
          rw [if_neg ho]
          simp (config := { maxSteps := 4000000 }) only [Tryz.f53, go_sem, Nat.reduceBEq, Nat.reduceAdd, Nat.reduceSub, Nat.reduceEqDiff, Nat.reduceLeDiff, Nat.reduceMul, rgT, z_regionT, allocs, isv?, z_step, z_stepE, okDst, wantedA, evalOp, evalV, evalS, storeAt, look, ofV, ofC, putA, clearA, lookV, lookVs, lookParts, adrOk, baseAt, baseOf, loadAt, partA, binA, unA, resOf, mkRes, envOf, List.range, List.range.loop, evalBuiltin, liveW, regOf, startE, optN, mapGet, mapPut, orZero, keyOk, cellOk, decide_eq_true_eq, Bool.not_eq_true', decide_eq_false_iff_not, ite_not, not_true_eq_false, not_false_eq_true, reduceCtorEq, and_true, true_and, and_self, Int.reduceLT, Int.reduceLE, Int.reduceEq, ge_iff_le, gt_iff_lt, hl, hv, hl2, hv2, hel0, hel2, hel, hi1, hi2, a1, a2, a3, a4, hz, hw, hqel, c62', hc, if_true]
    · rw [edgeErr_within b0 (by simp) c1]
      simp (config := { maxSteps := 4000000 }) only [Tryz.f53, go_sem, Nat.reduceBEq, Nat.reduceAdd, Nat.reduceSub, Nat.reduceEqDiff, Nat.reduceLeDiff, Nat.reduceMul, rgT, z_regionT, allocs, isv?, z_step, z_stepE, okDst, wantedA, evalOp, evalV, evalS, storeAt, look, ofV, ofC, putA, clearA, lookV, lookVs, lookParts, adrOk, baseAt, baseOf, loadAt, partA, binA, unA, resOf, mkRes, envOf, List.range, List.range.loop, evalBuiltin, liveW, regOf, startE, optN, mapGet, mapPut, orZero, keyOk, cellOk, decide_eq_true_eq, Bool.not_eq_true', decide_eq_false_iff_not, ite_not, not_true_eq_false, not_false_eq_true, reduceCtorEq, and_true, true_and, and_self, Int.reduceLT, Int.reduceLE, Int.reduceEq, ge_iff_le, gt_iff_lt, hl, hv, hl2, hv2, hel0, hel2, hel, hi1, hi2, a1, a2, a3, a4, c1]
  by_cases d1 : e4 < 0
  · rw [edgeErr_call b0 b1 (by simp only; omega) (by simp only; omega)]
    simp (config := { maxSteps := 4000000 }) only [Tryz.f53, go_sem, Nat.reduceBEq, Nat.reduceAdd, Nat.reduceSub, Nat.reduceEqDiff, Nat.reduceLeDiff, Nat.reduceMul, rgT, z_regionT, allocs, isv?, z_step, z_stepE, okDst, wantedA, evalOp, evalV, evalS, storeAt, look, ofV, ofC, putA, clearA, lookV, lookVs, lookParts, adrOk, baseAt, baseOf, loadAt, partA, binA, unA, resOf, mkRes, envOf, List.range, List.range.loop, evalBuiltin, liveW, regOf, startE, optN, mapGet, mapPut, orZero, keyOk, cellOk, decide_eq_true_eq, Bool.not_eq_true', decide_eq_false_iff_not, ite_not, not_true_eq_false, not_false_eq_true, reduceCtorEq, and_true, true_and, and_self, Int.reduceLT, Int.reduceLE, Int.reduceEq, ge_iff_le, gt_iff_lt, hl, hv, hl2, hv2, hel0, hel2, hel, hi1, hi2, a1, a2, a3, a4, a5, a6, k1, k5, d1]
  by_cases d2 : (ns.length : Int) ≤ e4
  · rw [edgeErr_call b0 b1 (by simp only; omega) (by simp only; omega)]
    simp (config := { maxSteps := 4000000 }) only [Tryz.f53, go_sem, Nat.reduceBEq, Nat.reduceAdd, Nat.reduceSub, Nat.reduceEqDiff, Nat.reduceLeDiff, Nat.reduceMul, rgT, z_regionT, allocs, isv?, z_step, z_stepE, okDst, wantedA, evalOp, evalV, evalS, storeAt, look, ofV, ofC, putA, clearA, lookV, lookVs, lookParts, adrOk, baseAt, baseOf, loadAt, partA, binA, unA, resOf, mkRes, envOf, List.range, List.range.loop, evalBuiltin, liveW, regOf, startE, optN, mapGet, mapPut, orZero, keyOk, cellOk, decide_eq_true_eq, Bool.not_eq_true', decide_eq_false_iff_not, ite_not, not_true_eq_false, not_false_eq_true, reduceCtorEq, and_true, true_and, and_self, Int.reduceLT, Int.reduceLE, Int.reduceEq, ge_iff_le, gt_iff_lt, hl, hv, hl2, hv2, hel0, hel2, hel, hi1, hi2, a1, a2, a3, a4, a5, a6, k1, k5, d1, d2]
  have hnum : EdgeNum ns (e1, e2, e3, e4) := ⟨⟨by simp only; omega, by simp only; omega, by simp only; omega, fun _ => by simp only; omega⟩, fun h => by simp only at h; omega⟩
  by_cases z : i = 0
  · have hp : prevE es i = none := by unfold prevE; rw [if_pos z]
    have hz : ¬ (0 : Int) < (i : Int) := by omega
    have h63 := c63' (base := σ.length) (m := m) hs hv2 hnum.ok (hen (fun q hq => by rw [hp] at hq; cases hq))
    rw [hp, edgeErr_first hnum]
    generalize fitsB ns en (e1, e2, e3, e4) = t at *
    cases t <;> simp (config := { maxSteps := 4000000 }) only [Tryz.f53, go_sem, Nat.reduceBEq, Nat.reduceAdd, Nat.reduceSub, Nat.reduceEqDiff, Nat.reduceLeDiff, Nat.reduceMul, rgT, z_regionT, allocs, isv?, z_step, z_stepE, okDst, wantedA, evalOp, evalV, evalS, storeAt, look, ofV, ofC, putA, clearA, lookV, lookVs, lookParts, adrOk, baseAt, baseOf, loadAt, partA, binA, unA, resOf, mkRes, envOf, List.range, List.range.loop, evalBuiltin, liveW, regOf, startE, optN, mapGet, mapPut, orZero, keyOk, cellOk, decide_eq_true_eq, Bool.not_eq_true', decide_eq_false_iff_not, ite_not, not_true_eq_false, not_false_eq_true, reduceCtorEq, and_true, true_and, and_self, Int.reduceLT, Int.reduceLE, Int.reduceEq, ge_iff_le, gt_iff_lt, hl, hv, hl2, hv2, hel0, hel2, hel, hi1, hi2, a1, a2, a3, a4, a5, a6, k1, k5, d1, d2, hz, h63, if_true, Bool.false_eq_true, if_false]
  · obtain ⟨q1, q2, q3, q4, hq, hqel, hw⟩ := hpq z
    have hz : (0 : Int) < (i : Int) := by omega
    rw [hq, edgeErr_next hnum]
    by_cases ho : ltE (q1, q2, q3, q4) (e1, e2, e3, e4) = true
    · have h63 := c63' (base := σ.length) (m := m) hs hv2 hnum.ok (hen (fun q hq2 => by rw [hq] at hq2; cases hq2; exact ho))
      have hc : (0 ≤ cmpE (q1, q2, q3, q4) (e1, e2, e3, e4)) = False := eq_false (fun h => by rw [show (0 ≤ cmpE (q1, q2, q3, q4) (e1, e2, e3, e4)) = (cmpE (q1, q2, q3, q4) (e1, e2, e3, e4) ≥ 0) from rfl, cmpE_ge, ho] at h; cases h)
      rw [if_pos ho]
      generalize fitsB ns en (e1, e2, e3, e4) = t at *
      cases t <;> simp (config := { maxSteps := 4000000 }) only [Tryz.f53, go_sem, Nat.reduceBEq, Nat.reduceAdd, Nat.reduceSub, Nat.reduceEqDiff, Nat.reduceLeDiff, Nat.reduceMul, rgT, z_regionT, allocs, isv?, z_step, z_stepE, okDst, wantedA, evalOp, evalV, evalS, storeAt, look, ofV, ofC, putA, clearA, lookV, lookVs, lookParts, adrOk, baseAt, baseOf, loadAt, partA, binA, unA, resOf, mkRes, envOf, List.range, List.range.loop, evalBuiltin, liveW, regOf, startE, optN, mapGet, mapPut, orZero, keyOk, cellOk, decide_eq_true_eq, Bool.not_eq_true', decide_eq_false_iff_not, ite_not, not_true_eq_false, not_false_eq_true, reduceCtorEq, and_true, true_and, and_self, Int.reduceLT, Int.reduceLE, Int.reduceEq, ge_iff_le, gt_iff_lt, hl, hv, hl2, hv2, hel0, hel2, hel, hi1, hi2, a1, a2, a3, a4, a5, a6, k1, k5, d1, d2, hz, hw, hqel, c62', hc, h63, if_true, Bool.false_eq_true, if_false]
    · have hc : (0 ≤ cmpE (q1, q2, q3, q4) (e1, e2, e3, e4)) = True := eq_true (by rw [← ge_iff_le, cmpE_ge]; exact Bool.eq_false_iff.2 ho)
      rw [if_neg ho]
      simp (config := { maxSteps := 4000000 }) only [Tryz.f53, go_sem, Nat.reduceBEq, Nat.reduceAdd, Nat.reduceSub, Nat.reduceEqDiff, Nat.reduceLeDiff, Nat.reduceMul, rgT, z_regionT, allocs, isv?, z_step, z_stepE, okDst, wantedA, evalOp, evalV, evalS, storeAt, look, ofV, ofC, putA, clearA, lookV, lookVs, lookParts, adrOk, baseAt, baseOf, loadAt, partA, binA, unA, resOf, mkRes, envOf, List.range, List.range.loop, evalBuiltin, liveW, regOf, startE, optN, mapGet, mapPut, orZero, keyOk, cellOk, decide_eq_true_eq, Bool.not_eq_true', decide_eq_false_iff_not, ite_not, not_true_eq_false, not_false_eq_true, reduceCtorEq, and_true, true_and, and_self, Int.reduceLT, Int.reduceLE, Int.reduceEq, ge_iff_le, gt_iff_lt, hl, hv, hl2, hv2, hel0, hel2, hel, hi1, hi2, a1, a2, a3, a4, a5, a6, k1, k5, d1, d2, hz, hw, hqel, c62', hc, if_true]


end Go.Can
