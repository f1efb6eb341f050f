/- Contracts: the reference's check of a path and of a trail. -/
import Derived.Test.YtjmljgajhkbciaaGreatExpF
set_option linter.unusedSimpArgs false
set_option linter.unusedVariables false
namespace Go.Can
open Go Go.Proofs

set_option maxRecDepth 100000 in
set_option maxHeartbeats 8000000 in
theorem loopRun {σ : St} {ns : List ND} {es : List ED} {m : Int} {fp : Bool} {path : List Int} (hlen : path.length ≤ 4096) : ∀ c (i : Nat) (node : Int) (cv : AV) (st : List Int), i + c = path.length → IsI cv st → st.length ≤ i →
    (pathErr es node st (path.drop i) = 0 → ∃ node' cv', (Slot.val cv').v = some cv' ∧ cv'.cells = [cv'] ∧ (∃ s', IsI cv' s') ∧ loopM Tryz.prog cfI 41 σ.length (loopOf Tryz.f41 7) (envS 46 [(2, .val (.list fp 1 (ints path))), (3, .var (superA ns es m)), (6, .var [.int .i64 0, .list true 0 []]), (8, .var [.int .i64 node, cv]), (10, .val (.int .i64 i))], σ) = some (.exit 0, envS 46 [(6, .var [.int .i64 0, .list true 0 []]), (8, .var [.int .i64 node', cv'])], σ)) ∧
    (¬ pathErr es node st (path.drop i) = 0 → loopM Tryz.prog cfI 41 σ.length (loopOf Tryz.f41 7) (envS 46 [(2, .val (.list fp 1 (ints path))), (3, .var (superA ns es m)), (6, .var [.int .i64 0, .list true 0 []]), (8, .var [.int .i64 node, cv]), (10, .val (.int .i64 i))], σ) = some (.ret, envS 46 [(6, .var [.int .i64 0, .list true 0 []]), (7, .val (.int .i64 (pathErr es node st (path.drop i))))], σ)) := by
  have hl : lenS (.list fp 1 (ints path)) = some path.length := by simp [lenS, ints_len]
  intro c
  induction c with
  | zero =>
    intro i node cv st hi hI hst
    have hi' : ¬ ((i : Int) < path.length) := by omega
    have hd : path.drop i = [] := List.drop_eq_nil_of_le (by omega)
    have hS := hI.sl (σ := σ)
    have hv := hS.v
    have hcs := hS.cells
    rw [hd]
    refine ⟨fun _ => ⟨node, cv, hv, hcs, ⟨st, hI⟩, ?_⟩, fun h => absurd rfl h⟩
    rw [loopM_step (by kernel_rfl)]
    simp only [loopOf, findLoop, regOf, Option.getD, envOf, List.range, List.range.loop, go_sem, Nat.reduceBEq, Nat.reduceEqDiff, Option.some.injEq, reduceCtorEq, envS, Tryz.f41, superA]
    generalize ints path = A at *
    simp only [go_sem, Nat.reduceBEq, Nat.reduceAdd, Nat.reduceSub, Nat.reduceEqDiff, Nat.reduceLeDiff, Nat.reduceMul, rgT, z_regionT, allocs, isv?, z_step, z_stepE, okDst, wantedA, evalOp, evalV, evalS, storeAt, look, ofV, ofC, putA, clearA, lookV, lookVs, lookParts, adrOk, baseAt, baseOf, loadAt, partA, binA, unA, resOf, mkRes, envOf, List.range, List.range.loop, evalBuiltin, liveW, regOf, startE, optN, mapGet, mapPut, orZero, keyOk, cellOk, decide_eq_true_eq, Bool.not_eq_true', decide_eq_false_iff_not, ite_not, not_true_eq_false, not_false_eq_true, reduceCtorEq, and_true, true_and, and_self, envS, hl, hi', hv, hcs]
  | succ c ih =>
    intro i node cv st hi hI hst
    have hlt : i < path.length := by omega
    obtain ⟨k, hd, hel, hget⟩ := drop_at (AV.int .i64) hlt
    have hw := w_inc hlt (by omega)
    have hlt' : (i : Int) < (path.length : Int) := by omega
    have h0i : (0 : Int) ≤ (i : Int) := by omega
    have hS := hI.sl (σ := σ)
    have hv := hS.v
    have hcs := hS.cells
    have hiv : (ints path)[i]? = some (.int .i64 k) := hel
    rw [hd, pathErr_step]
    obtain ⟨to, c2, v1, v2, v3, hstep⟩ := cStep (σ := σ) (ns := ns) (es := es) (m := m) (node := node) (k := k) hI (by omega)
    by_cases hz : stepErr es node st k = 0
    · rw [if_pos hz]
      obtain ⟨e1, hI2⟩ := v3 hz
      subst e1
      have hlen2 := stepSt_len (st := st) (e := eAt es k.toNat)
      obtain ⟨ih1, ih2⟩ := ih (i + 1) (eAt es k.toNat).2.1 c2 (stepSt st (eAt es k.toNat)) (by omega) hI2 (by omega)
      rw [hz] at hstep
      have step : loopM Tryz.prog cfI 41 σ.length (loopOf Tryz.f41 7) (envS 46 [(2, .val (.list fp 1 (ints path))), (3, .var (superA ns es m)), (6, .var [.int .i64 0, .list true 0 []]), (8, .var [.int .i64 node, cv]), (10, .val (.int .i64 i))], σ) = loopM Tryz.prog cfI 41 σ.length (loopOf Tryz.f41 7) (envS 46 [(2, .val (.list fp 1 (ints path))), (3, .var (superA ns es m)), (6, .var [.int .i64 0, .list true 0 []]), (8, .var [.int .i64 (eAt es k.toNat).2.1, c2]), (10, .val (.int .i64 ((i + 1 : Nat) : Int)))], σ) := by
        conv => lhs; rw [loopM_step (by kernel_rfl)]
        clear ih ih1 ih2 hd hget hS hI hI2 v3
        unfold superA at *
        simp only [loopOf, findLoop, regOf, Option.getD, envOf, List.range, List.range.loop, go_sem, Nat.reduceBEq, Nat.reduceEqDiff, Option.some.injEq, reduceCtorEq, envS, Tryz.f41]
        generalize (eAt es k.toNat).2.1 = to at *
        generalize ints path = A at *
        generalize es.map edgeA = E at *
        generalize ns.map nodeA = N at *
        simp (config := { maxSteps := 4000000 }) only [go_sem, Nat.reduceBEq, Nat.reduceAdd, Nat.reduceSub, Nat.reduceEqDiff, Nat.reduceLeDiff, Nat.reduceMul, rgT, z_regionT, allocs, isv?, z_step, z_stepE, okDst, wantedA, evalOp, evalV, evalS, storeAt, look, ofV, ofC, putA, clearA, lookV, lookVs, lookParts, adrOk, baseAt, baseOf, loadAt, partA, binA, unA, resOf, mkRes, envOf, List.range, List.range.loop, evalBuiltin, liveW, regOf, startE, optN, mapGet, mapPut, orZero, keyOk, cellOk, decide_eq_true_eq, Bool.not_eq_true', decide_eq_false_iff_not, ite_not, not_true_eq_false, not_false_eq_true, reduceCtorEq, and_true, true_and, and_self, Int.reduceEq, ne_eq, envS, hlt', h0i, hl, hiv, hv, hcs, v1, v2, hstep, hw]
      rw [step]
      exact ⟨ih1, ih2⟩
    · rw [if_neg hz]
      refine ⟨fun h => absurd h hz, fun _ => ?_⟩
      rw [loopM_step (by kernel_rfl)]
      clear ih hd hget hS hI v3
      unfold superA at *
      simp only [loopOf, findLoop, regOf, Option.getD, envOf, List.range, List.range.loop, go_sem, Nat.reduceBEq, Nat.reduceEqDiff, Option.some.injEq, reduceCtorEq, envS, Tryz.f41]
      generalize stepErr es node st k = q at *
      generalize ints path = A at *
      generalize es.map edgeA = E at *
      generalize ns.map nodeA = N at *
      simp (config := { maxSteps := 4000000 }) only [go_sem, Nat.reduceBEq, Nat.reduceAdd, Nat.reduceSub, Nat.reduceEqDiff, Nat.reduceLeDiff, Nat.reduceMul, rgT, z_regionT, allocs, isv?, z_step, z_stepE, okDst, wantedA, evalOp, evalV, evalS, storeAt, look, ofV, ofC, putA, clearA, lookV, lookVs, lookParts, adrOk, baseAt, baseOf, loadAt, partA, binA, unA, resOf, mkRes, envOf, List.range, List.range.loop, evalBuiltin, liveW, regOf, startE, optN, mapGet, mapPut, orZero, keyOk, cellOk, decide_eq_true_eq, Bool.not_eq_true', decide_eq_false_iff_not, ite_not, not_true_eq_false, not_false_eq_true, reduceCtorEq, and_true, true_and, and_self, ne_eq, envS, hlt', h0i, hl, hiv, hv, hcs, v1, v2, hstep, hz]

set_option maxRecDepth 100000 in
set_option maxHeartbeats 8000000 in
theorem cRun {σ : St} {ns : List ND} {es : List ED} {m n : Int} {fp : Bool} {path : List Int} (hpl : path.length < 2^63) :
    ∃ node cv, (Slot.val cv).v = some cv ∧ cv.cells = [cv] ∧ ∀ base, callL Tryz.prog cfI 41 [.agg (superA ns es m), .int .i64 n, .list fp 1 (ints path)] σ base = some (.tup [.agg [.int .i64 node, cv], .int .i64 (vpathErr ns es m n path)], σ) := by
  have hl : lenS (.list fp 1 (ints path)) = some path.length := by simp [lenS, ints_len]
  have h102 := fun b => cStart (σ := σ) (base := b) (ns := ns) (es := es) (m := m) (n := n)
  unfold vpathErr
  generalize hB : beginErr ns es m n = g at *
  by_cases h1 : g = 0
  · rw [if_neg (fun h => h h1)]
    by_cases h2 : (4096 : Int) < (path.length : Int)
    · rw [if_pos h2]
      refine ⟨0, .list true 0 [], rfl, rfl, fun base => ?_⟩
      refine callL_pure (σ' := σ) (v := .tup [.agg [.int .i64 0, .list true 0 []], .int .i64 3]) Tryz.func41 rfl (by kernel_rfl) rfl rfl (by simp) ?_ rfl
      rw [z_body]
      subst h1
      simp only [if_true] at h102
      unfold superA at *
      generalize ints path = A at *
      generalize es.map edgeA = E at *
      generalize ns.map nodeA = N at *
      simp (config := { maxSteps := 4000000 }) only [Tryz.f41, go_sem, Nat.reduceBEq, Nat.reduceAdd, Nat.reduceSub, Nat.reduceEqDiff, Nat.reduceLeDiff, Nat.reduceMul, rgT, z_regionT, allocs, isv?, z_step, z_stepE, okDst, wantedA, evalOp, evalV, evalS, storeAt, look, ofV, ofC, putA, clearA, lookV, lookVs, lookParts, adrOk, baseAt, baseOf, loadAt, partA, binA, unA, resOf, mkRes, envOf, List.range, List.range.loop, evalBuiltin, liveW, regOf, startE, optN, mapGet, mapPut, orZero, keyOk, cellOk, decide_eq_true_eq, Bool.not_eq_true', decide_eq_false_iff_not, ite_not, not_true_eq_false, not_false_eq_true, reduceCtorEq, and_true, true_and, and_self, Int.reduceEq, ne_eq, gt_iff_lt, hl, h102, h2]
    · rw [if_neg h2]
      obtain ⟨k1, k2⟩ := loopRun (σ := σ) (ns := ns) (es := es) (m := m) (fp := fp) (path := path) (by omega) path.length 0 n (.list true 0 []) [] (by omega) (.nil true 0) (by simp)
      rw [show ((0 : Nat) : Int) = 0 from rfl, List.drop_zero] at k1 k2
      subst h1
      simp only [if_true] at h102
      simp only [loopOf, findLoop, regOf, Option.getD, envOf, List.range, List.range.loop, go_sem, Nat.reduceBEq, Nat.reduceEqDiff, Option.some.injEq, reduceCtorEq, envS, Tryz.f41] at k1 k2
      generalize pathErr es n [] path = q at *
      by_cases h3 : q = 0
      · obtain ⟨node, cv, v1, v2, ⟨s', hI⟩, k⟩ := k1 h3
        subst h3
        refine ⟨node, cv, v1, v2, fun base => ?_⟩
        have hfz : freeze σ.length σ 6 (.tup [.agg [.int .i64 node, cv], .int .i64 0]) = some (.tup [.agg [.int .i64 node, cv], .int .i64 0]) := by
          cases hI with
          | nil b s => exact freeze_st2 (st := [])
          | list b st => exact freeze_st2
        refine callL_pure (σ' := σ) (v := .tup [.agg [.int .i64 node, cv], .int .i64 0]) Tryz.func41 rfl (by kernel_rfl) rfl rfl (by simp) ?_ ?_
        rotate_left
        · exact hfz
        rw [z_body]
        clear k1 k2 hfz hI
        unfold superA at *
        generalize ints path = A at *
        generalize es.map edgeA = E at *
        generalize ns.map nodeA = N at *
        simp (config := { maxSteps := 4000000 }) only [Tryz.f41, go_sem, Nat.reduceBEq, Nat.reduceAdd, Nat.reduceSub, Nat.reduceEqDiff, Nat.reduceLeDiff, Nat.reduceMul, rgT, z_regionT, allocs, isv?, z_step, z_stepE, okDst, wantedA, evalOp, evalV, evalS, storeAt, look, ofV, ofC, putA, clearA, lookV, lookVs, lookParts, adrOk, baseAt, baseOf, loadAt, partA, binA, unA, resOf, mkRes, envOf, List.range, List.range.loop, evalBuiltin, liveW, regOf, startE, optN, mapGet, mapPut, orZero, keyOk, cellOk, decide_eq_true_eq, Bool.not_eq_true', decide_eq_false_iff_not, ite_not, not_true_eq_false, not_false_eq_true, reduceCtorEq, and_true, true_and, and_self, Int.reduceEq, ne_eq, gt_iff_lt, hl, h102, h2, k, v1, v2]
      · have k := k2 h3
        refine ⟨0, .list true 0 [], rfl, rfl, fun base => ?_⟩
        refine callL_pure (σ' := σ) (v := .tup [.agg [.int .i64 0, .list true 0 []], .int .i64 q]) Tryz.func41 rfl (by kernel_rfl) rfl rfl (by simp) ?_ rfl
        rw [z_body]
        clear k1 k2
        unfold superA at *
        generalize ints path = A at *
        generalize es.map edgeA = E at *
        generalize ns.map nodeA = N at *
        simp (config := { maxSteps := 4000000 }) only [Tryz.f41, go_sem, Nat.reduceBEq, Nat.reduceAdd, Nat.reduceSub, Nat.reduceEqDiff, Nat.reduceLeDiff, Nat.reduceMul, rgT, z_regionT, allocs, isv?, z_step, z_stepE, okDst, wantedA, evalOp, evalV, evalS, storeAt, look, ofV, ofC, putA, clearA, lookV, lookVs, lookParts, adrOk, baseAt, baseOf, loadAt, partA, binA, unA, resOf, mkRes, envOf, List.range, List.range.loop, evalBuiltin, liveW, regOf, startE, optN, mapGet, mapPut, orZero, keyOk, cellOk, decide_eq_true_eq, Bool.not_eq_true', decide_eq_false_iff_not, ite_not, not_true_eq_false, not_false_eq_true, reduceCtorEq, and_true, true_and, and_self, Int.reduceEq, ne_eq, gt_iff_lt, hl, h102, h2, k]
  · rw [if_pos h1]
    refine ⟨0, .list true 0 [], rfl, rfl, fun base => ?_⟩
    refine callL_pure (σ' := σ) (v := .tup [.agg [.int .i64 0, .list true 0 []], .int .i64 g]) Tryz.func41 rfl (by kernel_rfl) rfl rfl (by simp) ?_ rfl
    rw [z_body]
    simp only [h1, if_false] at h102
    unfold superA at *
    generalize ints path = A at *
    generalize es.map edgeA = E at *
    generalize ns.map nodeA = N at *
    simp (config := { maxSteps := 4000000 }) only [Tryz.f41, go_sem, Nat.reduceBEq, Nat.reduceAdd, Nat.reduceSub, Nat.reduceEqDiff, Nat.reduceLeDiff, Nat.reduceMul, rgT, z_regionT, allocs, isv?, z_step, z_stepE, okDst, wantedA, evalOp, evalV, evalS, storeAt, look, ofV, ofC, putA, clearA, lookV, lookVs, lookParts, adrOk, baseAt, baseOf, loadAt, partA, binA, unA, resOf, mkRes, envOf, List.range, List.range.loop, evalBuiltin, liveW, regOf, startE, optN, mapGet, mapPut, orZero, keyOk, cellOk, decide_eq_true_eq, Bool.not_eq_true', decide_eq_false_iff_not, ite_not, not_true_eq_false, not_false_eq_true, reduceCtorEq, and_true, true_and, and_self, ne_eq, gt_iff_lt, hl, h102, h1]

set_option maxRecDepth 100000 in
set_option maxHeartbeats 8000000 in
theorem cCheck28 {σ : St} {base : Nat} {ns : List ND} {es : List ED} {m n : Int} {fp : Bool} {path : List Int} (hpl : path.length < 2^63) :
    callL Tryz.prog cfI 19 [.agg (superA ns es m), .int .i64 n, .list fp 1 (ints path)] σ base = some (.int .i64 (vpathErr ns es m n path), σ) := by
  obtain ⟨node, cv, v1, v2, h83⟩ := cRun (σ := σ) (ns := ns) (es := es) (m := m) (n := n) (fp := fp) hpl
  refine callL_pure (σ' := σ) (v := .int .i64 (vpathErr ns es m n path)) Tryz.func19 rfl (by kernel_rfl) rfl rfl (by simp) ?_ rfl
  rw [z_body]
  unfold superA at *
  generalize vpathErr ns es m n path = q at *
  generalize ints path = A at *
  generalize es.map edgeA = E at *
  generalize ns.map nodeA = N at *
  simp (config := { maxSteps := 4000000 }) only [Tryz.f19, go_sem, Nat.reduceBEq, Nat.reduceAdd, Nat.reduceSub, Nat.reduceEqDiff, Nat.reduceLeDiff, Nat.reduceMul, rgT, z_regionT, allocs, isv?, z_step, z_stepE, okDst, wantedA, evalOp, evalV, evalS, storeAt, look, ofV, ofC, putA, clearA, lookV, lookVs, lookParts, adrOk, baseAt, baseOf, loadAt, partA, binA, unA, resOf, mkRes, envOf, List.range, List.range.loop, evalBuiltin, liveW, regOf, startE, optN, mapGet, mapPut, orZero, keyOk, cellOk, decide_eq_true_eq, Bool.not_eq_true', decide_eq_false_iff_not, ite_not, not_true_eq_false, not_false_eq_true, reduceCtorEq, and_true, true_and, and_self, h83, v1, v2]

set_option maxRecDepth 100000 in
set_option maxHeartbeats 4000000 in
theorem cHas {σ : St} {base : Nat} {a : AV} {l : List Int} (hs : Sl σ 1 a (ints l)) {x : Int} (hlen : l.length < 2^63) :
    callL Tryz.prog cfI 25 [a, .int .i64 x] σ base = some (.bool (decide (x ∈ l)), σ) := by
  have hl := hs.len
  have hv := hs.v
  have he := hs.el
  rw [ints_len] at hl
  have key : ∀ n (i : Nat), i + n = l.length → loopM Tryz.prog cfI 25 σ.length (loopOf Tryz.f25 2) (envS 18 [(0, .val a), (1, .val (.int .i64 x)), (5, .val (.int .i64 i))], σ) =
     if x ∈ l.drop i then some (.ret, envS 18 [(4, .val (.bool true))], σ) else some (.exit 0, envS 18 [], σ) := by
    intro n
    induction n with
    | zero =>
      intro i hi
      have hi' : ¬ ((i : Int) < l.length) := by omega
      have hd : l.drop i = [] := List.drop_eq_nil_of_le (by omega)
      rw [loopM_step (by kernel_rfl), hd, if_neg (by simp)]
      simp only [loopOf, findLoop, regOf, Option.getD, envOf, List.range, List.range.loop, go_sem, Nat.reduceBEq, Nat.reduceEqDiff, Option.some.injEq, reduceCtorEq, envS, Tryz.f25]
      simp only [go_sem, Nat.reduceBEq, Nat.reduceAdd, Nat.reduceSub, Nat.reduceEqDiff, Nat.reduceLeDiff, Nat.reduceMul, rgT, z_regionT, allocs, isv?, z_step, z_stepE, okDst, wantedA, evalOp, evalV, evalS, storeAt, look, ofV, ofC, putA, clearA, lookV, lookVs, lookParts, adrOk, baseAt, baseOf, loadAt, partA, binA, unA, resOf, mkRes, envOf, List.range, List.range.loop, evalBuiltin, liveW, regOf, startE, optN, mapGet, mapPut, orZero, keyOk, cellOk, decide_eq_true_eq, Bool.not_eq_true', decide_eq_false_iff_not, ite_not, not_true_eq_false, not_false_eq_true, reduceCtorEq, and_true, true_and, and_self, envS, hl, hv, hi']
    | succ n ih =>
      intro i hi
      have hlt : i < l.length := by omega
      obtain ⟨y, hd, hel, _⟩ := drop_at (AV.int .i64) hlt
      have hel' : (ints l)[i]? = some (.int .i64 y) := hel
      have hw := w_inc hlt (by omega)
      have hlt' : (i : Int) < (l.length : Int) := by omega
      have h0i : (0 : Int) ≤ (i : Int) := by omega
      have ih' := ih (i + 1) (by omega)
      rw [loopM_step (by kernel_rfl), hd]
      simp only [loopOf, findLoop, regOf, Option.getD, envOf, List.range, List.range.loop, go_sem, Nat.reduceBEq, Nat.reduceEqDiff, Option.some.injEq, reduceCtorEq, envS, Tryz.f25] at ih' ⊢
      clear ih hd hel
      generalize ints l = A at *
      by_cases hq : y = x
      · subst hq
        simp (config := { maxSteps := 4000000 }) only [go_sem, Nat.reduceBEq, Nat.reduceAdd, Nat.reduceSub, Nat.reduceEqDiff, Nat.reduceLeDiff, Nat.reduceMul, rgT, z_regionT, allocs, isv?, z_step, z_stepE, okDst, wantedA, evalOp, evalV, evalS, storeAt, look, ofV, ofC, putA, clearA, lookV, lookVs, lookParts, adrOk, baseAt, baseOf, loadAt, partA, binA, unA, resOf, mkRes, envOf, List.range, List.range.loop, evalBuiltin, liveW, regOf, startE, optN, mapGet, mapPut, orZero, keyOk, cellOk, decide_eq_true_eq, Bool.not_eq_true', decide_eq_false_iff_not, ite_not, not_true_eq_false, not_false_eq_true, reduceCtorEq, and_true, true_and, and_self, envS, hl, hv, he, hlt', h0i, hel', eq_self, List.mem_cons, true_or, if_true]
      · have hq2 : ¬ x = y := fun e => hq e.symm
        simp (config := { maxSteps := 4000000 }) only [go_sem, Nat.reduceBEq, Nat.reduceAdd, Nat.reduceSub, Nat.reduceEqDiff, Nat.reduceLeDiff, Nat.reduceMul, rgT, z_regionT, allocs, isv?, z_step, z_stepE, okDst, wantedA, evalOp, evalV, evalS, storeAt, look, ofV, ofC, putA, clearA, lookV, lookVs, lookParts, adrOk, baseAt, baseOf, loadAt, partA, binA, unA, resOf, mkRes, envOf, List.range, List.range.loop, evalBuiltin, liveW, regOf, startE, optN, mapGet, mapPut, orZero, keyOk, cellOk, decide_eq_true_eq, Bool.not_eq_true', decide_eq_false_iff_not, ite_not, not_true_eq_false, not_false_eq_true, reduceCtorEq, and_true, true_and, and_self, envS, hl, hv, he, hlt', h0i, hel', hq, hq2, hw, List.mem_cons, false_or, ih']
  have key0 := key l.length 0 (by omega)
  rw [show ((0 : Nat) : Int) = 0 from rfl, List.drop_zero] at key0
  refine callL_pure (σ' := σ) (v := .bool (decide (x ∈ l))) Tryz.func25 rfl (by kernel_rfl) rfl rfl (by simp) ?_ rfl
  rw [z_body]
  simp only [loopOf, findLoop, regOf, Option.getD, envOf, List.range, List.range.loop, go_sem, Nat.reduceBEq, Nat.reduceEqDiff, Option.some.injEq, reduceCtorEq, envS, Tryz.f25] at key0
  by_cases hm : x ∈ l
  · rw [if_pos hm] at key0
    simp (config := { maxSteps := 4000000 }) only [Tryz.f25, go_sem, Nat.reduceBEq, Nat.reduceAdd, Nat.reduceSub, Nat.reduceEqDiff, Nat.reduceLeDiff, Nat.reduceMul, rgT, z_regionT, allocs, isv?, z_step, z_stepE, okDst, wantedA, evalOp, evalV, evalS, storeAt, look, ofV, ofC, putA, clearA, lookV, lookVs, lookParts, adrOk, baseAt, baseOf, loadAt, partA, binA, unA, resOf, mkRes, envOf, List.range, List.range.loop, evalBuiltin, liveW, regOf, startE, optN, mapGet, mapPut, orZero, keyOk, cellOk, decide_eq_true_eq, Bool.not_eq_true', decide_eq_false_iff_not, ite_not, not_true_eq_false, not_false_eq_true, reduceCtorEq, and_true, true_and, and_self, hv, hl, key0, hm, decide_true]
  · rw [if_neg hm] at key0
    simp (config := { maxSteps := 4000000 }) only [Tryz.f25, go_sem, Nat.reduceBEq, Nat.reduceAdd, Nat.reduceSub, Nat.reduceEqDiff, Nat.reduceLeDiff, Nat.reduceMul, rgT, z_regionT, allocs, isv?, z_step, z_stepE, okDst, wantedA, evalOp, evalV, evalS, storeAt, look, ofV, ofC, putA, clearA, lookV, lookVs, lookParts, adrOk, baseAt, baseOf, loadAt, partA, binA, unA, resOf, mkRes, envOf, List.range, List.range.loop, evalBuiltin, liveW, regOf, startE, optN, mapGet, mapPut, orZero, keyOk, cellOk, decide_eq_true_eq, Bool.not_eq_true', decide_eq_false_iff_not, ite_not, not_true_eq_false, not_false_eq_true, reduceCtorEq, and_true, true_and, and_self, hv, hl, key0, hm, decide_false]

set_option maxRecDepth 100000 in
set_option maxHeartbeats 4000000 in
theorem loopSeeds {σ : St} {ns : List ND} {es : List ED} {m facts : Int} {fl : List (List PD)} {n : Int} {sd : List PD} (hlen : sd.length ≤ 1000000) : ∀ c (i : Nat), i + c = sd.length →
    loopM Tryz.prog cfI 26 σ.length (loopOf Tryz.f26 3) (envS 32 [(1, .val (.int .i64 n)), (2, .var (probC ns es m facts fl sd)), (5, .val (accV σ (seedsOf (sd.take i) n))), (6, .val (.int .i64 i))], accS σ (seedsOf (sd.take i) n)) =
    some (.exit 0, envS 32 [(5, .val (accV σ (seedsOf sd n)))], accS σ (seedsOf sd n)) := by
  have hl : lenS (.list false 2 (sd.map pairA)) = some sd.length := by simp [lenS]
  intro c
  induction c with
  | zero =>
    intro i hi
    have hi' : ¬ ((i : Int) < sd.length) := by omega
    have ht : sd.take i = sd := List.take_of_length_le (by omega)
    have hav := acc_v (σ := σ) (acc := seedsOf sd n)
    rw [loopM_step (by kernel_rfl), ht]
    simp only [loopOf, findLoop, regOf, Option.getD, envOf, List.range, List.range.loop, go_sem, Nat.reduceBEq, Nat.reduceEqDiff, Option.some.injEq, reduceCtorEq, envS, Tryz.f26, probC]
    generalize sd.map pairA = A at *
    simp only [go_sem, Nat.reduceBEq, Nat.reduceAdd, Nat.reduceSub, Nat.reduceEqDiff, Nat.reduceLeDiff, Nat.reduceMul, rgT, z_regionT, allocs, isv?, z_step, z_stepE, okDst, wantedA, evalOp, evalV, evalS, storeAt, look, ofV, ofC, putA, clearA, lookV, lookVs, lookParts, adrOk, baseAt, baseOf, loadAt, partA, binA, unA, resOf, mkRes, envOf, List.range, List.range.loop, evalBuiltin, liveW, regOf, startE, optN, mapGet, mapPut, orZero, keyOk, cellOk, decide_eq_true_eq, Bool.not_eq_true', decide_eq_false_iff_not, ite_not, not_true_eq_false, not_false_eq_true, reduceCtorEq, and_true, true_and, and_self, envS, hl, hi', hav]
  | succ c ih =>
    intro i hi
    have hlt : i < sd.length := by omega
    obtain ⟨⟨y1, y2⟩, _, hel, hget⟩ := drop_at pairA hlt
    have hw := w_inc hlt (by omega)
    have hlt' : (i : Int) < (sd.length : Int) := by omega
    have h0i : (0 : Int) ≤ (i : Int) := by omega
    have ih' := ih (i + 1) (by omega)
    have ht : sd.take (i + 1) = sd.take i ++ [(y1, y2)] := by
      rw [List.take_add_one, hget]; rfl
    rw [ht, seedsOf_snoc] at ih'
    have hsl : (seedsOf (sd.take i) n).length ≤ 1000000 := Nat.le_trans seedsOf_len (by simp; omega)
    have happ := acc_app (σ := σ) (acc := seedsOf (sd.take i) n) (x := y2) (by omega)
    have hav := acc_v (σ := σ) (acc := seedsOf (sd.take i) n)
    rw [loopM_step (by kernel_rfl)]
    simp only [loopOf, findLoop, regOf, Option.getD, envOf, List.range, List.range.loop, go_sem, Nat.reduceBEq, Nat.reduceEqDiff, Option.some.injEq, reduceCtorEq, envS, Tryz.f26, probC] at ih' ⊢
    replace hel : (sd.map pairA)[i]? = some (.agg [.int .i64 y1, .int .i64 y2]) := hel
    clear ih hget ht
    generalize seedsOf (sd.take i) n = acc at *
    generalize sd.map pairA = A at *
    by_cases hy : y1 = n
    · simp only [hy, if_true] at ih'
      simp (config := { maxSteps := 4000000 }) only [go_sem, Nat.reduceBEq, Nat.reduceAdd, Nat.reduceSub, Nat.reduceEqDiff, Nat.reduceLeDiff, Nat.reduceMul, rgT, z_regionT, allocs, isv?, z_step, z_stepE, okDst, wantedA, evalOp, evalV, evalS, storeAt, look, ofV, ofC, putA, clearA, lookV, lookVs, lookParts, adrOk, baseAt, baseOf, loadAt, partA, binA, unA, resOf, mkRes, envOf, List.range, List.range.loop, evalBuiltin, liveW, regOf, startE, optN, mapGet, mapPut, orZero, keyOk, cellOk, decide_eq_true_eq, Bool.not_eq_true', decide_eq_false_iff_not, ite_not, not_true_eq_false, not_false_eq_true, reduceCtorEq, and_true, true_and, and_self, envS, hlt', h0i, hl, hel, hw, hy, happ, hav, ih']
    · simp only [hy, if_false, List.append_nil] at ih'
      simp (config := { maxSteps := 4000000 }) only [go_sem, Nat.reduceBEq, Nat.reduceAdd, Nat.reduceSub, Nat.reduceEqDiff, Nat.reduceLeDiff, Nat.reduceMul, rgT, z_regionT, allocs, isv?, z_step, z_stepE, okDst, wantedA, evalOp, evalV, evalS, storeAt, look, ofV, ofC, putA, clearA, lookV, lookVs, lookParts, adrOk, baseAt, baseOf, loadAt, partA, binA, unA, resOf, mkRes, envOf, List.range, List.range.loop, evalBuiltin, liveW, regOf, startE, optN, mapGet, mapPut, orZero, keyOk, cellOk, decide_eq_true_eq, Bool.not_eq_true', decide_eq_false_iff_not, ite_not, not_true_eq_false, not_false_eq_true, reduceCtorEq, and_true, true_and, and_self, envS, hlt', h0i, hl, hel, hw, hy, hav, ih']

set_option maxRecDepth 100000 in
set_option maxHeartbeats 4000000 in
theorem cSeeds {σ : St} {base : Nat} {ns : List ND} {es : List ED} {m facts : Int} {fl : List (List PD)} {sd : List PD} {n : Int} (hlen : sd.length ≤ 1000000) :
    callL Tryz.prog cfI 26 [.agg (probC ns es m facts fl sd), .int .i64 n] σ base = some (accF (seedsOf sd n), σ) := by
  have key0 := loopSeeds (σ := σ) (ns := ns) (es := es) (m := m) (facts := facts) (fl := fl) (n := n) (sd := sd) hlen sd.length 0 (by omega)
  rw [show ((0 : Nat) : Int) = 0 from rfl, List.take_zero] at key0
  have e0 : accV σ (seedsOf [] n) = .list true 0 [] := rfl
  have e1 : accS σ (seedsOf [] n) = σ := rfl
  rw [e0, e1] at key0
  have hav := acc_v (σ := σ) (acc := seedsOf sd n)
  refine callL_pure (σ' := accS σ (seedsOf sd n)) (v := accV σ (seedsOf sd n)) Tryz.func26 rfl (by kernel_rfl) rfl rfl (by simp) ?_ ?_
  rotate_left
  · exact freeze_acc
  rw [z_body]
  unfold probC at *
  simp only [loopOf, findLoop, regOf, Option.getD, envOf, List.range, List.range.loop, go_sem, Nat.reduceBEq, Nat.reduceEqDiff, Option.some.injEq, reduceCtorEq, envS, Tryz.f26] at key0
  generalize accV σ (seedsOf sd n) = V at *
  generalize accS σ (seedsOf sd n) = S at *
  generalize sd.map pairA = A at *
  generalize fl.map flA = B at *
  generalize es.map edgeA = D at *
  generalize ns.map nodeA = N at *
  simp (config := { maxSteps := 4000000 }) only [Tryz.f26, go_sem, Nat.reduceBEq, Nat.reduceAdd, Nat.reduceSub, Nat.reduceEqDiff, Nat.reduceLeDiff, Nat.reduceMul, rgT, z_regionT, allocs, isv?, z_step, z_stepE, okDst, wantedA, evalOp, evalV, evalS, storeAt, look, ofV, ofC, putA, clearA, lookV, lookVs, lookParts, adrOk, baseAt, baseOf, loadAt, partA, binA, unA, resOf, mkRes, envOf, List.range, List.range.loop, evalBuiltin, liveW, regOf, startE, optN, mapGet, mapPut, orZero, keyOk, cellOk, decide_eq_true_eq, Bool.not_eq_true', decide_eq_false_iff_not, ite_not, not_true_eq_false, not_false_eq_true, reduceCtorEq, and_true, true_and, and_self, hav, key0]

set_option maxRecDepth 100000 in
set_option maxHeartbeats 4000000 in
theorem cLinked {σ : St} {base : Nat} {ns : List ND} {es : List ED} {m facts : Int} {fl : List (List PD)} {sd : List PD} {k : Nat} {a b : Int} (hsd : sd.length ≤ 1000000) (hk1 : k < fl.length) (hk2 : k < es.length) (hfl : (fl.getD k []).length < 2^63) :
    callL Tryz.prog cfI 27 [.agg (probC ns es m facts fl sd), .int .i64 k, .int .i64 a, .int .i64 b] σ base = some (.bool (linkB es fl sd k a b), σ) := by
  have hl : lenS (.list false 1 (fl.map flA)) = some fl.length := by simp [lenS]
  have hl2 : lenS (.list false 4 (es.map edgeA)) = some es.length := by simp [lenS]
  obtain ⟨y, _, hel, hget⟩ := drop_at flA hk1
  have heq : fl.getD k [] = y := by rw [List.getD_eq_getElem?_getD, hget]; rfl
  obtain ⟨⟨e1, e2, e3, e4⟩, _, hek, hgk⟩ := drop_at edgeA hk2
  have heq2 : eAt es k = (e1, e2, e3, e4) := by unfold eAt; rw [List.getD_eq_getElem?_getD, hgk]; rfl
  rw [heq] at hfl
  have hl3 : lenS (.list false 2 (y.map pairA)) = some y.length := by simp [lenS]
  have h57 := fun b' => cSeeds (σ := σ) (base := b') (ns := ns) (es := es) (m := m) (facts := facts) (fl := fl) (sd := sd) (n := e2) hsd
  have hsl : (seedsOf sd e2).length ≤ 1000000 := Nat.le_trans seedsOf_len hsd
  have h27 := fun b' => cHas (σ := σ) (base := b') (x := b) (acc_sl (σ := σ) (acc := seedsOf sd e2)) (by omega)
  have hav := (acc_sl (σ := σ) (acc := seedsOf sd e2)).v
  have k0 : (0 : Int) ≤ (k : Int) := by omega
  have k1 : (k : Int) < (fl.length : Int) := by omega
  have k2 : (k : Int) < (es.length : Int) := by omega
  replace hel : (fl.map flA)[k]? = some (.list false 2 (y.map pairA)) := hel
  replace hek : (es.map edgeA)[k]? = some (.agg [.int .i64 e1, .int .i64 e2, .int .i64 e3, .int .i64 e4]) := hek
  have key : ∀ n (i : Nat), i + n = y.length → loopM Tryz.prog cfI 27 σ.length (loopOf Tryz.f27 2) (envS 59 [(1, .val (.int .i64 k)), (2, .val (.int .i64 a)), (3, .val (.int .i64 b)), (4, .var (probC ns es m facts fl sd)), (9, .val (.int .i64 i))], σ) =
     if (a, b) ∈ y.drop i then some (.ret, envS 59 [(8, .val (.bool true))], σ) else some (.exit 0, envS 59 [(1, .val (.int .i64 k)), (2, .val (.int .i64 a)), (3, .val (.int .i64 b)), (4, .var (probC ns es m facts fl sd))], σ) := by
    clear h57 h27 hav hsl
    intro n
    induction n with
    | zero =>
      intro i hi
      have hi' : ¬ ((i : Int) < y.length) := by omega
      have hd : y.drop i = [] := List.drop_eq_nil_of_le (by omega)
      rw [loopM_step (by kernel_rfl), hd, if_neg (by simp)]
      simp only [loopOf, findLoop, regOf, Option.getD, envOf, List.range, List.range.loop, go_sem, Nat.reduceBEq, Nat.reduceEqDiff, Option.some.injEq, reduceCtorEq, envS, Tryz.f27, probC]
      generalize y.map pairA = Y at *
      generalize fl.map flA = F at *
      simp (config := { maxSteps := 4000000 }) only [go_sem, Nat.reduceBEq, Nat.reduceAdd, Nat.reduceSub, Nat.reduceEqDiff, Nat.reduceLeDiff, Nat.reduceMul, rgT, z_regionT, allocs, isv?, z_step, z_stepE, okDst, wantedA, evalOp, evalV, evalS, storeAt, look, ofV, ofC, putA, clearA, lookV, lookVs, lookParts, adrOk, baseAt, baseOf, loadAt, partA, binA, unA, resOf, mkRes, envOf, List.range, List.range.loop, evalBuiltin, liveW, regOf, startE, optN, mapGet, mapPut, orZero, keyOk, cellOk, decide_eq_true_eq, Bool.not_eq_true', decide_eq_false_iff_not, ite_not, not_true_eq_false, not_false_eq_true, reduceCtorEq, and_true, true_and, and_self, envS, hl, hl3, k0, k1, hel, hi']
    | succ n ih =>
      intro i hi
      have hlt : i < y.length := by omega
      obtain ⟨⟨y1, y2⟩, hd, hey, _⟩ := drop_at pairA hlt
      replace hey : (y.map pairA)[i]? = some (.agg [.int .i64 y1, .int .i64 y2]) := hey
      have hw := w_inc hlt (by omega)
      have hlt' : (i : Int) < (y.length : Int) := by omega
      have h0i : (0 : Int) ≤ (i : Int) := by omega
      have ih' := ih (i + 1) (by omega)
      rw [loopM_step (by kernel_rfl), hd]
      simp only [loopOf, findLoop, regOf, Option.getD, envOf, List.range, List.range.loop, go_sem, Nat.reduceBEq, Nat.reduceEqDiff, Option.some.injEq, reduceCtorEq, envS, Tryz.f27, probC] at ih' ⊢
      clear ih hd
      generalize y.map pairA = Y at *
      generalize fl.map flA = F at *
      by_cases q1 : y1 = a
      · by_cases q2 : y2 = b
        · subst q1
          subst q2
          simp (config := { maxSteps := 4000000 }) only [go_sem, Nat.reduceBEq, Nat.reduceAdd, Nat.reduceSub, Nat.reduceEqDiff, Nat.reduceLeDiff, Nat.reduceMul, rgT, z_regionT, allocs, isv?, z_step, z_stepE, okDst, wantedA, evalOp, evalV, evalS, storeAt, look, ofV, ofC, putA, clearA, lookV, lookVs, lookParts, adrOk, baseAt, baseOf, loadAt, partA, binA, unA, resOf, mkRes, envOf, List.range, List.range.loop, evalBuiltin, liveW, regOf, startE, optN, mapGet, mapPut, orZero, keyOk, cellOk, decide_eq_true_eq, Bool.not_eq_true', decide_eq_false_iff_not, ite_not, not_true_eq_false, not_false_eq_true, reduceCtorEq, and_true, true_and, and_self, envS, hl, hl3, k0, k1, hel, hlt', h0i, hey, eq_self, List.mem_cons, true_or, if_true]
        · have q3 : ¬ (a, b) = (y1, y2) := fun e => q2 (Prod.mk.inj e).2.symm
          simp (config := { maxSteps := 4000000 }) only [go_sem, Nat.reduceBEq, Nat.reduceAdd, Nat.reduceSub, Nat.reduceEqDiff, Nat.reduceLeDiff, Nat.reduceMul, rgT, z_regionT, allocs, isv?, z_step, z_stepE, okDst, wantedA, evalOp, evalV, evalS, storeAt, look, ofV, ofC, putA, clearA, lookV, lookVs, lookParts, adrOk, baseAt, baseOf, loadAt, partA, binA, unA, resOf, mkRes, envOf, List.range, List.range.loop, evalBuiltin, liveW, regOf, startE, optN, mapGet, mapPut, orZero, keyOk, cellOk, decide_eq_true_eq, Bool.not_eq_true', decide_eq_false_iff_not, ite_not, not_true_eq_false, not_false_eq_true, reduceCtorEq, and_true, true_and, and_self, envS, hl, hl3, k0, k1, hel, hlt', h0i, hey, q1, q2, hw, ih', List.mem_cons, Prod.mk.injEq, eq_self, true_and, show ¬ b = y2 from fun e => q2 e.symm, false_or]
      · simp (config := { maxSteps := 4000000 }) only [go_sem, Nat.reduceBEq, Nat.reduceAdd, Nat.reduceSub, Nat.reduceEqDiff, Nat.reduceLeDiff, Nat.reduceMul, rgT, z_regionT, allocs, isv?, z_step, z_stepE, okDst, wantedA, evalOp, evalV, evalS, storeAt, look, ofV, ofC, putA, clearA, lookV, lookVs, lookParts, adrOk, baseAt, baseOf, loadAt, partA, binA, unA, resOf, mkRes, envOf, List.range, List.range.loop, evalBuiltin, liveW, regOf, startE, optN, mapGet, mapPut, orZero, keyOk, cellOk, decide_eq_true_eq, Bool.not_eq_true', decide_eq_false_iff_not, ite_not, not_true_eq_false, not_false_eq_true, reduceCtorEq, and_true, true_and, and_self, envS, hl, hl3, k0, k1, hel, hlt', h0i, hey, q1, hw, ih', List.mem_cons, Prod.mk.injEq, show ¬ a = y1 from fun e => q1 e.symm, false_and, false_or]
  have key0 := key y.length 0 (by omega)
  rw [show ((0 : Nat) : Int) = 0 from rfl, List.drop_zero] at key0
  refine callL_pure (σ' := σ) (v := .bool (linkB es fl sd k a b)) Tryz.func27 rfl (by kernel_rfl) rfl rfl (by simp) ?_ rfl
  rw [z_body]
  simp only [loopOf, findLoop, regOf, Option.getD, envOf, List.range, List.range.loop, go_sem, Nat.reduceBEq, Nat.reduceEqDiff, Option.some.injEq, reduceCtorEq, envS, Tryz.f27] at key0
  unfold linkB
  rw [heq, heq2]
  unfold probC at *
  simp only
  clear hget hgk heq heq2 key
  generalize decide (b ∈ seedsOf sd e2) = t2 at *
  generalize accF (seedsOf sd e2) = V at *
  generalize ns.map nodeA = N at *
  generalize es.map edgeA = E at *
  generalize sd.map pairA = D at *
  generalize fl.map flA = F at *
  generalize y.map pairA = Y at *
  by_cases h1 : (a, b) ∈ y
  · rw [if_pos h1]
    rw [if_pos h1] at key0
    simp (config := { maxSteps := 4000000 }) only [Tryz.f27, go_sem, Nat.reduceBEq, Nat.reduceAdd, Nat.reduceSub, Nat.reduceEqDiff, Nat.reduceLeDiff, Nat.reduceMul, rgT, z_regionT, allocs, isv?, z_step, z_stepE, okDst, wantedA, evalOp, evalV, evalS, storeAt, look, ofV, ofC, putA, clearA, lookV, lookVs, lookParts, adrOk, baseAt, baseOf, loadAt, partA, binA, unA, resOf, mkRes, envOf, List.range, List.range.loop, evalBuiltin, liveW, regOf, startE, optN, mapGet, mapPut, orZero, keyOk, cellOk, decide_eq_true_eq, Bool.not_eq_true', decide_eq_false_iff_not, ite_not, not_true_eq_false, not_false_eq_true, reduceCtorEq, and_true, true_and, and_self, hl, hl2, hel, hek, k0, k1, k2, key0]
  · rw [if_neg h1]
    rw [if_neg h1] at key0
    by_cases h2 : a = 0
    · subst h2
      simp (config := { maxSteps := 4000000 }) only [Tryz.f27, go_sem, Nat.reduceBEq, Nat.reduceAdd, Nat.reduceSub, Nat.reduceEqDiff, Nat.reduceLeDiff, Nat.reduceMul, rgT, z_regionT, allocs, isv?, z_step, z_stepE, okDst, wantedA, evalOp, evalV, evalS, storeAt, look, ofV, ofC, putA, clearA, lookV, lookVs, lookParts, adrOk, baseAt, baseOf, loadAt, partA, binA, unA, resOf, mkRes, envOf, List.range, List.range.loop, evalBuiltin, liveW, regOf, startE, optN, mapGet, mapPut, orZero, keyOk, cellOk, decide_eq_true_eq, Bool.not_eq_true', decide_eq_false_iff_not, ite_not, not_true_eq_false, not_false_eq_true, reduceCtorEq, and_true, true_and, and_self, hl, hl2, hel, hek, k0, k1, k2, key0, h57, h27, hav, decide_true, Bool.true_and]
    · simp (config := { maxSteps := 4000000 }) only [Tryz.f27, go_sem, Nat.reduceBEq, Nat.reduceAdd, Nat.reduceSub, Nat.reduceEqDiff, Nat.reduceLeDiff, Nat.reduceMul, rgT, z_regionT, allocs, isv?, z_step, z_stepE, okDst, wantedA, evalOp, evalV, evalS, storeAt, look, ofV, ofC, putA, clearA, lookV, lookVs, lookParts, adrOk, baseAt, baseOf, loadAt, partA, binA, unA, resOf, mkRes, envOf, List.range, List.range.loop, evalBuiltin, liveW, regOf, startE, optN, mapGet, mapPut, orZero, keyOk, cellOk, decide_eq_true_eq, Bool.not_eq_true', decide_eq_false_iff_not, ite_not, not_true_eq_false, not_false_eq_true, reduceCtorEq, and_true, true_and, and_self, hl, hl2, hel, hek, k0, k1, k2, key0, h2, decide_false, Bool.false_and]

end Go.Can

