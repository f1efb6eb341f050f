/- The closed example; the law's bounds; the law ExplodedCheck: true for every problem and trail. -/
import Derived.Test.YtjmljgajhkbciaaGreatExpH
import Derived.Test.YtjmljgajhkbciaaGreatIfdsA2
import Derived.Test.YtjmljgajhkbciaaGreatIfdsK2
set_option linter.unusedSimpArgs false
set_option linter.unusedVariables false
set_option maxRecDepth 100000
namespace Go.Can
open Go Go.Proofs Go.RowKit

set_option maxHeartbeats 4000000 in
theorem c19 {σ : St} {base : Nat} : callL Tryz.prog cfI 10 [] σ base = some (.bool true, σ) := by
  have h36 := callL_iff.2 ⟨22, one36⟩
  have h35 := callL_iff.2 ⟨22, along35⟩
  have ha := callL_iff.2 ⟨22, knowsA⟩
  have hb := callL_iff.2 ⟨22, knowsB⟩
  have hc := callL_iff.2 ⟨22, knowsC⟩
  have ov : (Slot.val oneA).v = some oneA := rfl
  have e2 : (((2 : Nat) : Int) = 2) = True := eq_true rfl
  have e3 : ((0 : Int) < ((2 : Nat) : Int)) = True := by simp
  have e4 : ((1 : Int) < ((2 : Nat) : Int)) = True := by simp
  have e5 : ((0 : Int) ≤ 0) = True := by simp
  have e6 : ((0 : Int) ≤ 1) = True := by simp
  have g0 : ∀ a b : AV, [a, b][(0 : Int).toNat]? = some a := fun _ _ => rfl
  have g1 : ∀ a b : AV, [a, b][(1 : Int).toNat]? = some b := fun _ _ => rfl
  generalize oneA = A at *
  refine callL_nullary (σ' := []) (v := .bool true) Tryz.func10 rfl (by kernel_rfl) rfl rfl ?_ rfl
  unfold bodyT
  simp only [Tryz.f10, go_sem, Nat.reduceBEq, Nat.reduceAdd, Nat.reduceSub, Nat.reduceEqDiff, Nat.reduceLeDiff, Nat.reduceMul, rgT, regionT, allocs, isv?, stepO, okDst, wantedA, evalOp, evalV, evalS, storeAt, look, ofV, ofC, putA, clearA, lookV, lookVs, lookParts, adrOk, baseAt, baseOf, loadAt, partA, binA, unA, resOf, mkRes, envOf, List.range, List.range.loop, evalBuiltin, liveW, regOf, startE, optN, mapGet, mapPut, orZero, keyOk, cellOk, h36, h35, ha, hb, hc, ov, e2, e3, e4, e5, e6, g0, g1]

/-- A flow function of more than 40 pairs. -/
def longE (fl : List (List PD)) (i : Nat) : Int := if ((fl.getD i []).length : Int) > 40 then 1 else 0

/-- The law's bounds. -/
def smallB (ns : List ND) (es : List ED) (facts : Int) (fl : List (List PD)) (sd : List PD) : Bool :=
  if (ns.length : Int) > 40 ∨ (es.length : Int) > 80 ∨ facts > 8 ∨ (fl.length : Int) > 80 ∨ (sd.length : Int) > 20 then false
  else decide (firstE (longE fl) fl.length 0 = 0)

theorem small_spec {ns : List ND} {es : List ED} {facts : Int} {fl : List (List PD)} {sd : List PD} (h : smallB ns es facts fl sd = true) : ns.length ≤ 40 ∧ es.length ≤ 80 ∧ facts ≤ 8 ∧ fl.length ≤ 80 ∧ sd.length ≤ 20 ∧ ∀ l ∈ fl, l.length ≤ 40 := by
  unfold smallB at h
  by_cases a : (ns.length : Int) > 40 ∨ (es.length : Int) > 80 ∨ facts > 8 ∨ (fl.length : Int) > 80 ∨ (sd.length : Int) > 20
  · rw [if_pos a] at h; cases h
  · rw [if_neg a] at h
    have h' := of_decide_eq_true h
    refine ⟨by omega, by omega, by omega, by omega, by omega, fun l hl => ?_⟩
    obtain ⟨k, hk, rfl⟩ := List.getElem_of_mem hl
    have := firstE_zero h' k (by omega) (by omega)
    have e : fl.getD k [] = fl[k] := by simp [hk]
    unfold longE at this
    rw [e] at this
    by_cases b : ((fl[k]).length : Int) > 40
    · rw [if_pos b] at this; exact absurd this (by decide)
    · omega

set_option maxHeartbeats 8000000 in
theorem loopSmall {σ : St} {ns : List ND} {es : List ED} {m facts : Int} {fl : List (List PD)} {sd : List PD} (hlen : fl.length < 2^63) : ∀ c (i : Nat), i + c = fl.length →
    loopM Tryz.prog cfI 6 σ.length (loopOf Tryz.f6 4) (envS 47 [(1, .var (probC ns es m facts fl sd)), (3, .val (.int .i64 i))], σ) =
    if firstE (longE fl) c i = 0 then some (.exit 0, envS 47 [], σ) else some (.ret, envS 47 [(2, .val (.bool false))], σ) := by
  have hl : lenS (.list false 1 (fl.map flA)) = some fl.length := by simp [lenS]
  intro c
  induction c with
  | zero =>
    intro i hi
    have hi' : ¬ ((i : Int) < fl.length) := by omega
    rw [loopM_step (by kernel_rfl)]
    simp only [loopOf, findLoop, regOf, Option.getD, envOf, List.range, List.range.loop, go_sem, Nat.reduceBEq, Nat.reduceEqDiff, Option.some.injEq, reduceCtorEq, envS, Tryz.f6, probC]
    generalize fl.map flA = A at *
    simp only [go_sem, Nat.reduceBEq, Nat.reduceAdd, Nat.reduceSub, Nat.reduceEqDiff, Nat.reduceLeDiff, Nat.reduceMul, rgT, z_regionT, allocs, isv?, z_step, z_stepE, okDst, wantedA, evalOp, evalV, evalS, storeAt, look, ofV, ofC, putA, clearA, lookV, lookVs, lookParts, adrOk, baseAt, baseOf, loadAt, partA, binA, unA, resOf, mkRes, envOf, List.range, List.range.loop, evalBuiltin, liveW, regOf, startE, optN, mapGet, mapPut, orZero, keyOk, cellOk, decide_eq_true_eq, Bool.not_eq_true', decide_eq_false_iff_not, ite_not, not_true_eq_false, not_false_eq_true, reduceCtorEq, and_true, true_and, and_self, envS, hl, hi', firstE, if_true]
  | succ c ih =>
    intro i hi
    have hlt : i < fl.length := by omega
    obtain ⟨y, _, hel, hget⟩ := drop_at flA hlt
    have heq : fl.getD i [] = y := by rw [List.getD_eq_getElem?_getD, hget]; rfl
    have hw := w_inc hlt (by omega)
    have h0i : (0 : Int) ≤ (i : Int) := by omega
    have hlt' : (i : Int) < (fl.length : Int) := by omega
    have hl3 : lenS (.list false 2 (y.map pairA)) = some y.length := by simp [lenS]
    have ih' := ih (i + 1) (by omega)
    replace hel : (fl.map flA)[i]? = some (.list false 2 (y.map pairA)) := hel
    rw [loopM_step (by kernel_rfl)]
    simp only [loopOf, findLoop, regOf, Option.getD, envOf, List.range, List.range.loop, go_sem, Nat.reduceBEq, Nat.reduceEqDiff, Option.some.injEq, reduceCtorEq, envS, Tryz.f6, probC] at ih' ⊢
    unfold firstE
    have hf : longE fl i = if (y.length : Int) > 40 then 1 else 0 := by unfold longE; rw [heq]
    rw [hf]
    have n1 : ¬ ((1 : Int) = 0) := by decide
    clear ih hget heq hf
    generalize fl.map flA = A at *
    generalize y.map pairA = Y at *
    by_cases a1 : (40 : Int) < y.length
    · have e : (if (y.length : Int) > 40 then (1 : Int) else 0) = 1 := if_pos a1
      rw [e]
      simp only [n1, if_false]
      simp (config := { maxSteps := 4000000 }) only [go_sem, Nat.reduceBEq, Nat.reduceAdd, Nat.reduceSub, Nat.reduceEqDiff, Nat.reduceLeDiff, Nat.reduceMul, rgT, z_regionT, allocs, isv?, z_step, z_stepE, okDst, wantedA, evalOp, evalV, evalS, storeAt, look, ofV, ofC, putA, clearA, lookV, lookVs, lookParts, adrOk, baseAt, baseOf, loadAt, partA, binA, unA, resOf, mkRes, envOf, List.range, List.range.loop, evalBuiltin, liveW, regOf, startE, optN, mapGet, mapPut, orZero, keyOk, cellOk, decide_eq_true_eq, Bool.not_eq_true', decide_eq_false_iff_not, ite_not, not_true_eq_false, not_false_eq_true, reduceCtorEq, and_true, true_and, and_self, envS, gt_iff_lt, hlt', h0i, hl, hel, hl3, a1]
    · have e : (if (y.length : Int) > 40 then (1 : Int) else 0) = 0 := if_neg a1
      rw [e, if_pos rfl]
      simp (config := { maxSteps := 4000000 }) only [go_sem, Nat.reduceBEq, Nat.reduceAdd, Nat.reduceSub, Nat.reduceEqDiff, Nat.reduceLeDiff, Nat.reduceMul, rgT, z_regionT, allocs, isv?, z_step, z_stepE, okDst, wantedA, evalOp, evalV, evalS, storeAt, look, ofV, ofC, putA, clearA, lookV, lookVs, lookParts, adrOk, baseAt, baseOf, loadAt, partA, binA, unA, resOf, mkRes, envOf, List.range, List.range.loop, evalBuiltin, liveW, regOf, startE, optN, mapGet, mapPut, orZero, keyOk, cellOk, decide_eq_true_eq, Bool.not_eq_true', decide_eq_false_iff_not, ite_not, not_true_eq_false, not_false_eq_true, reduceCtorEq, and_true, true_and, and_self, envS, gt_iff_lt, hlt', h0i, hl, hel, hl3, a1, hw, ih']

set_option maxHeartbeats 8000000 in
theorem cSmall {σ : St} {base : Nat} {ns : List ND} {es : List ED} {m facts : Int} {fl : List (List PD)} {sd : List PD} (hfl : fl.length < 2^63) :
    callL Tryz.prog cfI 6 [.agg (probC ns es m facts fl sd)] σ base = some (.bool (smallB ns es facts fl sd), σ) := by
  have hl1 : lenS (.list false 3 (ns.map nodeA)) = some ns.length := by simp [lenS]
  have hl2 : lenS (.list false 4 (es.map edgeA)) = some es.length := by simp [lenS]
  have hl3 : lenS (.list false 1 (fl.map flA)) = some fl.length := by simp [lenS]
  have hl4 : lenS (.list false 2 (sd.map pairA)) = some sd.length := by simp [lenS]
  have k1 := loopSmall (σ := σ) (ns := ns) (es := es) (m := m) (facts := facts) (fl := fl) (sd := sd) hfl fl.length 0 (by omega)
  rw [show ((0 : Nat) : Int) = 0 from rfl] at k1
  refine callL_pure (σ' := σ) (v := .bool (smallB ns es facts fl sd)) Tryz.func6 rfl (by kernel_rfl) rfl rfl (by simp) ?_ rfl
  rw [z_body]
  simp only [loopOf, findLoop, regOf, Option.getD, envOf, List.range, List.range.loop, go_sem, Nat.reduceBEq, Nat.reduceEqDiff, Option.some.injEq, reduceCtorEq, envS, Tryz.f6] at k1
  unfold smallB
  unfold probC at *
  generalize ns.map nodeA = N at *
  generalize es.map edgeA = E at *
  generalize sd.map pairA = D at *
  generalize fl.map flA = F at *
  generalize firstE (longE fl) fl.length 0 = q at *
  simp only [gt_iff_lt]
  by_cases b1 : (40 : Int) < (ns.length : Int)
  · rw [if_pos (.inl b1)]
    simp (config := { maxSteps := 4000000 }) only [Tryz.f6, go_sem, Nat.reduceBEq, Nat.reduceAdd, Nat.reduceSub, Nat.reduceEqDiff, Nat.reduceLeDiff, Nat.reduceMul, rgT, z_regionT, allocs, isv?, z_step, z_stepE, okDst, wantedA, evalOp, evalV, evalS, storeAt, look, ofV, ofC, putA, clearA, lookV, lookVs, lookParts, adrOk, baseAt, baseOf, loadAt, partA, binA, unA, resOf, mkRes, envOf, List.range, List.range.loop, evalBuiltin, liveW, regOf, startE, optN, mapGet, mapPut, orZero, keyOk, cellOk, decide_eq_true_eq, Bool.not_eq_true', decide_eq_false_iff_not, ite_not, not_true_eq_false, not_false_eq_true, reduceCtorEq, and_true, true_and, and_self, gt_iff_lt, hl1, hl2, hl3, hl4, b1]
  by_cases b2 : (80 : Int) < (es.length : Int)
  · rw [if_pos (.inr (.inl b2))]
    simp (config := { maxSteps := 4000000 }) only [Tryz.f6, go_sem, Nat.reduceBEq, Nat.reduceAdd, Nat.reduceSub, Nat.reduceEqDiff, Nat.reduceLeDiff, Nat.reduceMul, rgT, z_regionT, allocs, isv?, z_step, z_stepE, okDst, wantedA, evalOp, evalV, evalS, storeAt, look, ofV, ofC, putA, clearA, lookV, lookVs, lookParts, adrOk, baseAt, baseOf, loadAt, partA, binA, unA, resOf, mkRes, envOf, List.range, List.range.loop, evalBuiltin, liveW, regOf, startE, optN, mapGet, mapPut, orZero, keyOk, cellOk, decide_eq_true_eq, Bool.not_eq_true', decide_eq_false_iff_not, ite_not, not_true_eq_false, not_false_eq_true, reduceCtorEq, and_true, true_and, and_self, gt_iff_lt, hl1, hl2, hl3, hl4, b1, b2]
  by_cases b3 : 8 < facts
  · rw [if_pos (.inr (.inr (.inl b3)))]
    simp (config := { maxSteps := 4000000 }) only [Tryz.f6, go_sem, Nat.reduceBEq, Nat.reduceAdd, Nat.reduceSub, Nat.reduceEqDiff, Nat.reduceLeDiff, Nat.reduceMul, rgT, z_regionT, allocs, isv?, z_step, z_stepE, okDst, wantedA, evalOp, evalV, evalS, storeAt, look, ofV, ofC, putA, clearA, lookV, lookVs, lookParts, adrOk, baseAt, baseOf, loadAt, partA, binA, unA, resOf, mkRes, envOf, List.range, List.range.loop, evalBuiltin, liveW, regOf, startE, optN, mapGet, mapPut, orZero, keyOk, cellOk, decide_eq_true_eq, Bool.not_eq_true', decide_eq_false_iff_not, ite_not, not_true_eq_false, not_false_eq_true, reduceCtorEq, and_true, true_and, and_self, gt_iff_lt, hl1, hl2, hl3, hl4, b1, b2, b3]
  by_cases b4 : (80 : Int) < (fl.length : Int)
  · rw [if_pos (.inr (.inr (.inr (.inl b4))))]
    simp (config := { maxSteps := 4000000 }) only [Tryz.f6, go_sem, Nat.reduceBEq, Nat.reduceAdd, Nat.reduceSub, Nat.reduceEqDiff, Nat.reduceLeDiff, Nat.reduceMul, rgT, z_regionT, allocs, isv?, z_step, z_stepE, okDst, wantedA, evalOp, evalV, evalS, storeAt, look, ofV, ofC, putA, clearA, lookV, lookVs, lookParts, adrOk, baseAt, baseOf, loadAt, partA, binA, unA, resOf, mkRes, envOf, List.range, List.range.loop, evalBuiltin, liveW, regOf, startE, optN, mapGet, mapPut, orZero, keyOk, cellOk, decide_eq_true_eq, Bool.not_eq_true', decide_eq_false_iff_not, ite_not, not_true_eq_false, not_false_eq_true, reduceCtorEq, and_true, true_and, and_self, gt_iff_lt, hl1, hl2, hl3, hl4, b1, b2, b3, b4]
  by_cases b5 : (20 : Int) < (sd.length : Int)
  · rw [if_pos (.inr (.inr (.inr (.inr b5))))]
    simp (config := { maxSteps := 4000000 }) only [Tryz.f6, go_sem, Nat.reduceBEq, Nat.reduceAdd, Nat.reduceSub, Nat.reduceEqDiff, Nat.reduceLeDiff, Nat.reduceMul, rgT, z_regionT, allocs, isv?, z_step, z_stepE, okDst, wantedA, evalOp, evalV, evalS, storeAt, look, ofV, ofC, putA, clearA, lookV, lookVs, lookParts, adrOk, baseAt, baseOf, loadAt, partA, binA, unA, resOf, mkRes, envOf, List.range, List.range.loop, evalBuiltin, liveW, regOf, startE, optN, mapGet, mapPut, orZero, keyOk, cellOk, decide_eq_true_eq, Bool.not_eq_true', decide_eq_false_iff_not, ite_not, not_true_eq_false, not_false_eq_true, reduceCtorEq, and_true, true_and, and_self, gt_iff_lt, hl1, hl2, hl3, hl4, b1, b2, b3, b4, b5]
  rw [if_neg (by omega)]
  by_cases b6 : q = 0
  · rw [if_pos b6] at k1
    simp (config := { maxSteps := 4000000 }) only [Tryz.f6, go_sem, Nat.reduceBEq, Nat.reduceAdd, Nat.reduceSub, Nat.reduceEqDiff, Nat.reduceLeDiff, Nat.reduceMul, rgT, z_regionT, allocs, isv?, z_step, z_stepE, okDst, wantedA, evalOp, evalV, evalS, storeAt, look, ofV, ofC, putA, clearA, lookV, lookVs, lookParts, adrOk, baseAt, baseOf, loadAt, partA, binA, unA, resOf, mkRes, envOf, List.range, List.range.loop, evalBuiltin, liveW, regOf, startE, optN, mapGet, mapPut, orZero, keyOk, cellOk, decide_eq_true_eq, Bool.not_eq_true', decide_eq_false_iff_not, ite_not, not_true_eq_false, not_false_eq_true, reduceCtorEq, and_true, true_and, and_self, gt_iff_lt, hl1, hl2, hl3, hl4, b1, b2, b3, b4, b5, b6, k1, decide_true]
  · rw [if_neg b6] at k1
    simp (config := { maxSteps := 4000000 }) only [Tryz.f6, go_sem, Nat.reduceBEq, Nat.reduceAdd, Nat.reduceSub, Nat.reduceEqDiff, Nat.reduceLeDiff, Nat.reduceMul, rgT, z_regionT, allocs, isv?, z_step, z_stepE, okDst, wantedA, evalOp, evalV, evalS, storeAt, look, ofV, ofC, putA, clearA, lookV, lookVs, lookParts, adrOk, baseAt, baseOf, loadAt, partA, binA, unA, resOf, mkRes, envOf, List.range, List.range.loop, evalBuiltin, liveW, regOf, startE, optN, mapGet, mapPut, orZero, keyOk, cellOk, decide_eq_true_eq, Bool.not_eq_true', decide_eq_false_iff_not, ite_not, not_true_eq_false, not_false_eq_true, reduceCtorEq, and_true, true_and, and_self, gt_iff_lt, hl1, hl2, hl3, hl4, b1, b2, b3, b4, b5, b6, k1, decide_false]

set_option maxHeartbeats 8000000 in
theorem lCheck {ns : List ND} {es : List ED} {m facts : Int} {fl : List (List PD)} {sd : List PD} {ed fc : List Int} (hfl : fl.length < 2^63) (hfc : fc.length < 2^63) :
    callL Tryz.prog cfI 4 [.agg (probC ns es m facts fl sd), .agg (trailC ed fc)] [] 0 = some (.bool true, []) := by
  have hl : lenS (.list false 1 (ints ed)) = some ed.length := by simp [lenS, ints_len]
  have hs := fun b => cSmall (σ := []) (base := b) (ns := ns) (es := es) (m := m) (facts := facts) (fl := fl) (sd := sd) hfl
  refine callL_pure (σ' := []) (v := .bool true) Tryz.func4 rfl (by kernel_rfl) rfl rfl (by simp) ?_ rfl
  rw [z_body]
  cases hb : smallB ns es facts fl sd with
  | false =>
    rw [hb] at hs
    unfold probC trailC at *
    generalize ns.map nodeA = N at *
    generalize es.map edgeA = E at *
    generalize sd.map pairA = D at *
    generalize fl.map flA = F at *
    generalize ints ed = B at *
    generalize ints fc = A at *
    simp (config := { maxSteps := 4000000 }) only [Tryz.f4, go_sem, Nat.reduceBEq, Nat.reduceAdd, Nat.reduceSub, Nat.reduceEqDiff, Nat.reduceLeDiff, Nat.reduceMul, rgT, z_regionT, allocs, isv?, z_step, z_stepE, okDst, wantedA, evalOp, evalV, evalS, storeAt, look, ofV, ofC, putA, clearA, lookV, lookVs, lookParts, adrOk, baseAt, baseOf, loadAt, partA, binA, unA, resOf, mkRes, envOf, List.range, List.range.loop, evalBuiltin, liveW, regOf, startE, optN, mapGet, mapPut, orZero, keyOk, cellOk, decide_eq_true_eq, Bool.not_eq_true', decide_eq_false_iff_not, ite_not, not_true_eq_false, not_false_eq_true, reduceCtorEq, and_true, true_and, and_self, hs]
  | true =>
    rw [hb] at hs
    obtain ⟨_, _, _, s4, s5, _⟩ := small_spec hb
    by_cases h40 : (40 : Int) < (ed.length : Int)
    · unfold probC trailC at *
      generalize ns.map nodeA = N at *
      generalize es.map edgeA = E at *
      generalize sd.map pairA = D at *
      generalize fl.map flA = F at *
      generalize ints ed = B at *
      generalize ints fc = A at *
      simp (config := { maxSteps := 4000000 }) only [Tryz.f4, go_sem, Nat.reduceBEq, Nat.reduceAdd, Nat.reduceSub, Nat.reduceEqDiff, Nat.reduceLeDiff, Nat.reduceMul, rgT, z_regionT, allocs, isv?, z_step, z_stepE, okDst, wantedA, evalOp, evalV, evalS, storeAt, look, ofV, ofC, putA, clearA, lookV, lookVs, lookParts, adrOk, baseAt, baseOf, loadAt, partA, binA, unA, resOf, mkRes, envOf, List.range, List.range.loop, evalBuiltin, liveW, regOf, startE, optN, mapGet, mapPut, orZero, keyOk, cellOk, decide_eq_true_eq, Bool.not_eq_true', decide_eq_false_iff_not, ite_not, not_true_eq_false, not_false_eq_true, reduceCtorEq, and_true, true_and, and_self, gt_iff_lt, hs, hl, h40]
    · have h37 := fun b => c37 (σ := []) (base := b) (ns := ns) (es := es) (m := m) (facts := facts) (fl := fl) (sd := sd) (ed := ed) (fc := fc) hfl (by omega) (by omega) hfc
      have hT := fun b => cTrail (σ := []) (base := b) (ns := ns) (es := es) (m := m) (facts := facts) (fl := fl) (sd := sd) (ed := ed) (fc := fc) hfl (by omega) (by omega) hfc
      have hk := fun b => c19 (σ := []) (base := b)
      generalize trailErr ns es m facts fl sd ed fc = q at *
      unfold probC trailC at *
      generalize ns.map nodeA = N at *
      generalize es.map edgeA = E at *
      generalize sd.map pairA = D at *
      generalize fl.map flA = F at *
      generalize ints ed = B at *
      generalize ints fc = A at *
      simp (config := { maxSteps := 4000000 }) only [Tryz.f4, go_sem, Nat.reduceBEq, Nat.reduceAdd, Nat.reduceSub, Nat.reduceEqDiff, Nat.reduceLeDiff, Nat.reduceMul, rgT, z_regionT, allocs, isv?, z_step, z_stepE, okDst, wantedA, evalOp, evalV, evalS, storeAt, look, ofV, ofC, putA, clearA, lookV, lookVs, lookParts, adrOk, baseAt, baseOf, loadAt, partA, binA, unA, resOf, mkRes, envOf, List.range, List.range.loop, evalBuiltin, liveW, regOf, startE, optN, mapGet, mapPut, orZero, keyOk, cellOk, decide_eq_true_eq, Bool.not_eq_true', decide_eq_false_iff_not, ite_not, not_true_eq_false, not_false_eq_true, reduceCtorEq, and_true, true_and, and_self, gt_iff_lt, hs, hl, h40, h37, hT, hk, beq_self_eq_true, decide_true]

end Go.Can
