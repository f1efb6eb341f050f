/- Contracts: the reference's steps along a path. -/
import Derived.Test.YtjmljgajhkbciaaGreatExpE
import Derived.Test.YtjmljgajhkbciaaGreatIfdsCF
set_option linter.unusedSimpArgs false
set_option linter.unusedVariables false
namespace Go.Can
open Go Go.Proofs

/-- The error of one step. -/
def stepErr (es : List ED) (node : Int) (st : List Int) (k : Int) : Int :=
  if k < 0 ∨ k ≥ es.length then 4 else if (eAt es k.toNat).1 ≠ node then 16 else if allowsB st (eAt es k.toNat) = false then 20 else 0

theorem pathErr_step {es : List ED} {node : Int} {st : List Int} {k : Int} {r : List Int} : pathErr es node st (k :: r) = if stepErr es node st k = 0 then pathErr es (eAt es k.toNat).2.1 (stepSt st (eAt es k.toNat)) r else stepErr es node st k := by
  conv => lhs; unfold pathErr
  unfold stepErr
  by_cases a1 : k < 0 ∨ k ≥ es.length
  · simp only [if_pos a1]; rfl
  simp only [if_neg a1]
  by_cases a2 : (eAt es k.toNat).1 ≠ node
  · simp only [if_pos a2]; rfl
  simp only [if_neg a2]
  by_cases a3 : allowsB st (eAt es k.toNat) = false
  · simp only [if_pos a3]; rfl
  simp only [if_neg a3]; rfl

theorem app_two {σ : St} {st : List Int} {x : Int} (h : (st.length + 1) * 8 ≤ 140737488355328) :
    appendTo σ.length σ 1 8 (.list true 1 []) (ints st) = some (.row 1 σ.length st.length 0 st.length false, σ ++ [.row 1 (ints st)]) ∧
    appendTo σ.length (σ ++ [.row 1 (ints st)]) 1 8 (.row 1 σ.length st.length 0 st.length false) [.int .i64 x] = some (.row 1 σ.length (st.length + 1) 0 (st.length + 1) false, σ ++ [.row 1 (ints (st ++ [x]))]) := by
  have hll : (ints st).length = st.length := ints_len
  constructor
  · rw [append_fresh (by rw [hll]; omega) (by omega), hll]
  · have := append_row (base := σ.length) (id := σ.length) (σ := σ ++ [.row 1 (ints st)]) (sz := 1) (bytes := 8) (xs := ints st) (ys := [.int .i64 x]) (by simp) (Nat.le_refl _) (by rw [hll]; simpa using h) (by omega)
    rw [hll] at this
    rw [this]
    have e1 : ints st ++ [AV.int .i64 x] = ints (st ++ [x]) := by simp [ints]
    rw [List.set_append_right _ _ (Nat.le_refl _), Nat.sub_self, e1]
    simp

theorem freeze_st {σ : St} {to : Int} {st : List Int} {k : Nat} (hk : k = st.length) : freeze σ.length (σ ++ [.row 1 (ints st)]) 6 (.tup [.agg [.int .i64 to, .row 1 σ.length k 0 k false], .int .i64 0]) = some (.tup [.agg [.int .i64 to, .list false 1 (ints st)], .int .i64 0]) := by
  subst hk
  exact freeze_tup (n := 5) (freezeL_two (freeze_agg (n := 4) (freezeL_two rfl (freeze_row (n := 2)))) rfl)
theorem freeze_st2 {σ : St} {base : Nat} {to q : Int} {b : Bool} {s : Nat} {st : List Int} : freeze base σ 6 (.tup [.agg [.int .i64 to, .list b s (ints st)], .int .i64 q]) = some (.tup [.agg [.int .i64 to, .list b s (ints st)], .int .i64 q]) :=
  freeze_tup (n := 5) (freezeL_two freeze_list5 rfl)

set_option maxRecDepth 100000 in
set_option maxHeartbeats 8000000 in
theorem cStep {σ : St} {ns : List ND} {es : List ED} {m node k : Int} {cv : AV} {st : List Int} (hI : IsI cv st) (hst : st.length ≤ 1000000) :
    ∃ to c2, (Slot.val c2).v = some c2 ∧ c2.cells = [c2] ∧ (stepErr es node st k = 0 → to = (eAt es k.toNat).2.1 ∧ IsI c2 (stepSt st (eAt es k.toNat))) ∧ ∀ base, callL Tryz.prog cfI 69 [.agg (superA ns es m), .agg [.int .i64 node, cv], .int .i64 k] σ base = some (.tup [.agg [.int .i64 to, c2], .int .i64 (stepErr es node st k)], σ) := by
  have hl : lenS (.list false 4 (es.map edgeA)) = some es.length := by simp [lenS]
  have hS := hI.sl (σ := σ)
  have hv := hS.v
  have hcs := hS.cells
  have hl2 := hS.len
  have hel0 := hS.el
  rw [ints_len] at hl2
  unfold stepErr
  by_cases a1 : k < 0
  · rw [if_pos (.inl a1)]
    refine ⟨0, .list true 0 [], rfl, rfl, fun h => absurd h (by decide), fun base => ?_⟩
    refine callL_pure (σ' := σ) (v := .tup [.agg [.int .i64 0, .list true 0 []], .int .i64 4]) Tryz.func69 rfl (by kernel_rfl) rfl rfl (by simp) ?_ rfl
    rw [z_body]
    unfold superA
    clear hS hI
    generalize es.map edgeA = E at *
    simp (config := { maxSteps := 4000000 }) only [Tryz.f69, go_sem, Nat.reduceBEq, Nat.reduceAdd, Nat.reduceSub, Nat.reduceEqDiff, Nat.reduceLeDiff, Nat.reduceMul, rgT, z_regionT, allocs, isv?, z_step, z_stepE, okDst, wantedA, evalOp, evalV, evalS, storeAt, look, ofV, ofC, putA, clearA, lookV, lookVs, lookParts, adrOk, baseAt, baseOf, loadAt, partA, binA, unA, resOf, mkRes, envOf, List.range, List.range.loop, evalBuiltin, liveW, regOf, startE, optN, mapGet, mapPut, orZero, keyOk, cellOk, decide_eq_true_eq, Bool.not_eq_true', decide_eq_false_iff_not, ite_not, not_true_eq_false, not_false_eq_true, reduceCtorEq, and_true, true_and, and_self, Int.reduceEq, eq_self, hv, hcs, hl, hl2, ge_iff_le, a1]
  by_cases a2 : (es.length : Int) ≤ k
  · rw [if_pos (.inr a2)]
    refine ⟨0, .list true 0 [], rfl, rfl, fun h => absurd h (by decide), fun base => ?_⟩
    refine callL_pure (σ' := σ) (v := .tup [.agg [.int .i64 0, .list true 0 []], .int .i64 4]) Tryz.func69 rfl (by kernel_rfl) rfl rfl (by simp) ?_ rfl
    rw [z_body]
    unfold superA
    clear hS hI
    generalize es.map edgeA = E at *
    simp (config := { maxSteps := 4000000 }) only [Tryz.f69, go_sem, Nat.reduceBEq, Nat.reduceAdd, Nat.reduceSub, Nat.reduceEqDiff, Nat.reduceLeDiff, Nat.reduceMul, rgT, z_regionT, allocs, isv?, z_step, z_stepE, okDst, wantedA, evalOp, evalV, evalS, storeAt, look, ofV, ofC, putA, clearA, lookV, lookVs, lookParts, adrOk, baseAt, baseOf, loadAt, partA, binA, unA, resOf, mkRes, envOf, List.range, List.range.loop, evalBuiltin, liveW, regOf, startE, optN, mapGet, mapPut, orZero, keyOk, cellOk, decide_eq_true_eq, Bool.not_eq_true', decide_eq_false_iff_not, ite_not, not_true_eq_false, not_false_eq_true, reduceCtorEq, and_true, true_and, and_self, Int.reduceEq, eq_self, hv, hcs, hl, hl2, ge_iff_le, a1, a2]
  rw [if_neg (by omega)]
  have hk : k.toNat < es.length := by omega
  obtain ⟨⟨e1, e2, e3, e4⟩, _, hek, hgk⟩ := drop_at edgeA hk
  have heq : eAt es k.toNat = (e1, e2, e3, e4) := by unfold eAt; rw [List.getD_eq_getElem?_getD, hgk]; rfl
  rw [heq]
  replace hek : (es.map edgeA)[k.toNat]? = some (.agg [.int .i64 e1, .int .i64 e2, .int .i64 e3, .int .i64 e4]) := hek
  have b1 : 0 ≤ k := by omega
  have b2 : k < (es.length : Int) := by omega
  clear hgk heq
  by_cases a3 : e1 = node
  · subst a3
    rw [if_neg (fun h => h rfl)]
    by_cases c2 : e3 = 2
    · subst c2
      have ha : allowsB st (e1, e2, 2, e4) = true := by unfold allowsB rets; simp
      rw [ha, if_neg (by decide)]
      obtain ⟨k1, k2⟩ := app_two (σ := σ) (st := st) (x := e1) (by omega)
      refine ⟨e2, .list false 1 (ints (st ++ [e1])), rfl, rfl, fun _ => ⟨rfl, by unfold stepSt; simp only [if_true]; exact .list _ _⟩, fun base => ?_⟩
      have hfz := freeze_st (σ := σ) (to := e2) (st := st ++ [e1]) (k := st.length + 1) (by simp)
      refine callL_pure (σ' := σ ++ [.row 1 (ints (st ++ [e1]))]) (v := .tup [.agg [.int .i64 e2, .row 1 σ.length (st.length + 1) 0 (st.length + 1) false], .int .i64 0]) Tryz.func69 rfl (by kernel_rfl) rfl rfl (by simp) ?_ ?_
      rotate_left
      · exact hfz
      rw [z_body]
      unfold superA
      clear hS hI hfz ha
      generalize ints (st ++ [e1]) = B at *
      generalize ints st = A at *
      generalize es.map edgeA = E at *
      simp (config := { maxSteps := 4000000 }) only [Tryz.f69, go_sem, Nat.reduceBEq, Nat.reduceAdd, Nat.reduceSub, Nat.reduceEqDiff, Nat.reduceLeDiff, Nat.reduceMul, rgT, z_regionT, allocs, isv?, z_step, z_stepE, okDst, wantedA, evalOp, evalV, evalS, storeAt, look, ofV, ofC, putA, clearA, lookV, lookVs, lookParts, adrOk, baseAt, baseOf, loadAt, partA, binA, unA, resOf, mkRes, envOf, List.range, List.range.loop, evalBuiltin, liveW, regOf, startE, optN, mapGet, mapPut, orZero, keyOk, cellOk, decide_eq_true_eq, Bool.not_eq_true', decide_eq_false_iff_not, ite_not, not_true_eq_false, not_false_eq_true, reduceCtorEq, and_true, true_and, and_self, Int.reduceEq, eq_self, hv, hcs, hl, hl2, hel0, ge_iff_le, ne_eq, a1, a2, b1, b2, hek, k1, k2]
    by_cases d3 : e3 = 3
    · subst d3
      have hrt : rets (e1, e2, 3, e4) = true := by unfold rets; simp
      by_cases h0 : 0 < st.length
      · have h0' : ((st.length : Int) = 0) = False := eq_false (by omega)
        have hw : IntKind.i64.wrap ((st.length : Int) - 1) = ((st.length - 1 : Nat) : Int) := by rw [wrap_i64] <;> omega
        have hi1 : (0 : Int) ≤ ((st.length - 1 : Nat) : Int) := by omega
        have hi2 : ((st.length - 1 : Nat) : Int) < (st.length : Int) := by omega
        have hg : (ints st)[st.length - 1]? = some (.int .i64 (st.getD (st.length - 1) 0)) := ints_at (by omega)
        have ha : allowsB st (e1, e2, 3, e4) = decide (st.getD (st.length - 1) 0 = e4) := by unfold allowsB; rw [hrt]; simp [h0]
        by_cases hq : st.getD (st.length - 1) 0 = e4
        · rw [ha, decide_eq_true hq, if_neg (by decide)]
          obtain ⟨b, k1⟩ := slice_drop hI h0
          refine ⟨e2, .list b 1 (ints (st.take (st.length - 1))), rfl, rfl, fun _ => ⟨rfl, by unfold stepSt; rw [if_neg (by simp), if_pos hrt]; exact .list _ _⟩, fun base => ?_⟩
          refine callL_pure (σ' := σ) (v := .tup [.agg [.int .i64 e2, .list b 1 (ints (st.take (st.length - 1)))], .int .i64 0]) Tryz.func69 rfl (by kernel_rfl) rfl rfl (by simp) ?_ ?_
          rotate_left
          · exact freeze_st2
          rw [z_body]
          unfold superA
          clear hS hI ha
          generalize ints (st.take (st.length - 1)) = B at *
          generalize ints st = A at *
          generalize st.getD (st.length - 1) 0 = q at *
          generalize st.length - 1 = j at *
          generalize es.map edgeA = E at *
          simp (config := { maxSteps := 4000000 }) only [Tryz.f69, go_sem, Nat.reduceBEq, Nat.reduceAdd, Nat.reduceSub, Nat.reduceEqDiff, Nat.reduceLeDiff, Nat.reduceMul, rgT, z_regionT, allocs, isv?, z_step, z_stepE, okDst, wantedA, evalOp, evalV, evalS, storeAt, look, ofV, ofC, putA, clearA, lookV, lookVs, lookParts, adrOk, baseAt, baseOf, loadAt, partA, binA, unA, resOf, mkRes, envOf, List.range, List.range.loop, evalBuiltin, liveW, regOf, startE, optN, mapGet, mapPut, orZero, keyOk, cellOk, decide_eq_true_eq, Bool.not_eq_true', decide_eq_false_iff_not, ite_not, not_true_eq_false, not_false_eq_true, reduceCtorEq, and_true, true_and, and_self, Int.reduceEq, eq_self, hv, hcs, hl, hl2, hel0, ge_iff_le, ne_eq, a1, a2, b1, b2, hek, h0', hw, hi1, hi2, hg, hq, k1]
        · rw [ha, decide_eq_false hq, if_pos rfl]
          generalize st.getD (st.length - 1) 0 = q at *
          generalize st.length - 1 = j at *
          refine ⟨0, .list true 0 [], rfl, rfl, fun h => absurd h (by decide), fun base => ?_⟩
          refine callL_pure (σ' := σ) (v := .tup [.agg [.int .i64 0, .list true 0 []], .int .i64 20]) Tryz.func69 rfl (by kernel_rfl) rfl rfl (by simp) ?_ rfl
          rw [z_body]
          unfold superA
          clear hS hI
          generalize es.map edgeA = E at *
          simp (config := { maxSteps := 4000000 }) only [Tryz.f69, go_sem, Nat.reduceBEq, Nat.reduceAdd, Nat.reduceSub, Nat.reduceEqDiff, Nat.reduceLeDiff, Nat.reduceMul, rgT, z_regionT, allocs, isv?, z_step, z_stepE, okDst, wantedA, evalOp, evalV, evalS, storeAt, look, ofV, ofC, putA, clearA, lookV, lookVs, lookParts, adrOk, baseAt, baseOf, loadAt, partA, binA, unA, resOf, mkRes, envOf, List.range, List.range.loop, evalBuiltin, liveW, regOf, startE, optN, mapGet, mapPut, orZero, keyOk, cellOk, decide_eq_true_eq, Bool.not_eq_true', decide_eq_false_iff_not, ite_not, not_true_eq_false, not_false_eq_true, reduceCtorEq, and_true, true_and, and_self, Int.reduceEq, eq_self, hv, hcs, hl, hl2, hel0, ge_iff_le, ne_eq, a1, a2, b1, b2, hek, h0', hw, hi1, hi2, hg, hq]
      · have h0' : ((st.length : Int) = 0) = True := eq_true (by omega)
        have ha : allowsB st (e1, e2, 3, e4) = false := by unfold allowsB; rw [hrt]; simp [h0]
        rw [ha, if_pos rfl]
        refine ⟨0, .list true 0 [], rfl, rfl, fun h => absurd h (by decide), fun base => ?_⟩
        refine callL_pure (σ' := σ) (v := .tup [.agg [.int .i64 0, .list true 0 []], .int .i64 20]) Tryz.func69 rfl (by kernel_rfl) rfl rfl (by simp) ?_ rfl
        rw [z_body]
        unfold superA
        clear hS hI
        generalize es.map edgeA = E at *
        simp (config := { maxSteps := 4000000 }) only [Tryz.f69, go_sem, Nat.reduceBEq, Nat.reduceAdd, Nat.reduceSub, Nat.reduceEqDiff, Nat.reduceLeDiff, Nat.reduceMul, rgT, z_regionT, allocs, isv?, z_step, z_stepE, okDst, wantedA, evalOp, evalV, evalS, storeAt, look, ofV, ofC, putA, clearA, lookV, lookVs, lookParts, adrOk, baseAt, baseOf, loadAt, partA, binA, unA, resOf, mkRes, envOf, List.range, List.range.loop, evalBuiltin, liveW, regOf, startE, optN, mapGet, mapPut, orZero, keyOk, cellOk, decide_eq_true_eq, Bool.not_eq_true', decide_eq_false_iff_not, ite_not, not_true_eq_false, not_false_eq_true, reduceCtorEq, and_true, true_and, and_self, Int.reduceEq, eq_self, hv, hcs, hl, hl2, hel0, ge_iff_le, ne_eq, a1, a2, b1, b2, hek, h0']
    by_cases d4 : e3 = 4
    · subst d4
      have hrt : rets (e1, e2, 4, e4) = true := by unfold rets; simp
      by_cases h0 : 0 < st.length
      · have h0' : ((st.length : Int) = 0) = False := eq_false (by omega)
        have hw : IntKind.i64.wrap ((st.length : Int) - 1) = ((st.length - 1 : Nat) : Int) := by rw [wrap_i64] <;> omega
        have hi1 : (0 : Int) ≤ ((st.length - 1 : Nat) : Int) := by omega
        have hi2 : ((st.length - 1 : Nat) : Int) < (st.length : Int) := by omega
        have hg : (ints st)[st.length - 1]? = some (.int .i64 (st.getD (st.length - 1) 0)) := ints_at (by omega)
        have ha : allowsB st (e1, e2, 4, e4) = decide (st.getD (st.length - 1) 0 = e4) := by unfold allowsB; rw [hrt]; simp [h0]
        by_cases hq : st.getD (st.length - 1) 0 = e4
        · rw [ha, decide_eq_true hq, if_neg (by decide)]
          obtain ⟨b, k1⟩ := slice_drop hI h0
          refine ⟨e2, .list b 1 (ints (st.take (st.length - 1))), rfl, rfl, fun _ => ⟨rfl, by unfold stepSt; rw [if_neg (by simp), if_pos hrt]; exact .list _ _⟩, fun base => ?_⟩
          refine callL_pure (σ' := σ) (v := .tup [.agg [.int .i64 e2, .list b 1 (ints (st.take (st.length - 1)))], .int .i64 0]) Tryz.func69 rfl (by kernel_rfl) rfl rfl (by simp) ?_ ?_
          rotate_left
          · exact freeze_st2
          rw [z_body]
          unfold superA
          clear hS hI ha
          generalize ints (st.take (st.length - 1)) = B at *
          generalize ints st = A at *
          generalize st.getD (st.length - 1) 0 = q at *
          generalize st.length - 1 = j at *
          generalize es.map edgeA = E at *
          simp (config := { maxSteps := 4000000 }) only [Tryz.f69, go_sem, Nat.reduceBEq, Nat.reduceAdd, Nat.reduceSub, Nat.reduceEqDiff, Nat.reduceLeDiff, Nat.reduceMul, rgT, z_regionT, allocs, isv?, z_step, z_stepE, okDst, wantedA, evalOp, evalV, evalS, storeAt, look, ofV, ofC, putA, clearA, lookV, lookVs, lookParts, adrOk, baseAt, baseOf, loadAt, partA, binA, unA, resOf, mkRes, envOf, List.range, List.range.loop, evalBuiltin, liveW, regOf, startE, optN, mapGet, mapPut, orZero, keyOk, cellOk, decide_eq_true_eq, Bool.not_eq_true', decide_eq_false_iff_not, ite_not, not_true_eq_false, not_false_eq_true, reduceCtorEq, and_true, true_and, and_self, Int.reduceEq, eq_self, hv, hcs, hl, hl2, hel0, ge_iff_le, ne_eq, a1, a2, b1, b2, hek, h0', hw, hi1, hi2, hg, hq, k1]
        · rw [ha, decide_eq_false hq, if_pos rfl]
          generalize st.getD (st.length - 1) 0 = q at *
          generalize st.length - 1 = j at *
          refine ⟨0, .list true 0 [], rfl, rfl, fun h => absurd h (by decide), fun base => ?_⟩
          refine callL_pure (σ' := σ) (v := .tup [.agg [.int .i64 0, .list true 0 []], .int .i64 20]) Tryz.func69 rfl (by kernel_rfl) rfl rfl (by simp) ?_ rfl
          rw [z_body]
          unfold superA
          clear hS hI
          generalize es.map edgeA = E at *
          simp (config := { maxSteps := 4000000 }) only [Tryz.f69, go_sem, Nat.reduceBEq, Nat.reduceAdd, Nat.reduceSub, Nat.reduceEqDiff, Nat.reduceLeDiff, Nat.reduceMul, rgT, z_regionT, allocs, isv?, z_step, z_stepE, okDst, wantedA, evalOp, evalV, evalS, storeAt, look, ofV, ofC, putA, clearA, lookV, lookVs, lookParts, adrOk, baseAt, baseOf, loadAt, partA, binA, unA, resOf, mkRes, envOf, List.range, List.range.loop, evalBuiltin, liveW, regOf, startE, optN, mapGet, mapPut, orZero, keyOk, cellOk, decide_eq_true_eq, Bool.not_eq_true', decide_eq_false_iff_not, ite_not, not_true_eq_false, not_false_eq_true, reduceCtorEq, and_true, true_and, and_self, Int.reduceEq, eq_self, hv, hcs, hl, hl2, hel0, ge_iff_le, ne_eq, a1, a2, b1, b2, hek, h0', hw, hi1, hi2, hg, hq]
      · have h0' : ((st.length : Int) = 0) = True := eq_true (by omega)
        have ha : allowsB st (e1, e2, 4, e4) = false := by unfold allowsB; rw [hrt]; simp [h0]
        rw [ha, if_pos rfl]
        refine ⟨0, .list true 0 [], rfl, rfl, fun h => absurd h (by decide), fun base => ?_⟩
        refine callL_pure (σ' := σ) (v := .tup [.agg [.int .i64 0, .list true 0 []], .int .i64 20]) Tryz.func69 rfl (by kernel_rfl) rfl rfl (by simp) ?_ rfl
        rw [z_body]
        unfold superA
        clear hS hI
        generalize es.map edgeA = E at *
        simp (config := { maxSteps := 4000000 }) only [Tryz.f69, go_sem, Nat.reduceBEq, Nat.reduceAdd, Nat.reduceSub, Nat.reduceEqDiff, Nat.reduceLeDiff, Nat.reduceMul, rgT, z_regionT, allocs, isv?, z_step, z_stepE, okDst, wantedA, evalOp, evalV, evalS, storeAt, look, ofV, ofC, putA, clearA, lookV, lookVs, lookParts, adrOk, baseAt, baseOf, loadAt, partA, binA, unA, resOf, mkRes, envOf, List.range, List.range.loop, evalBuiltin, liveW, regOf, startE, optN, mapGet, mapPut, orZero, keyOk, cellOk, decide_eq_true_eq, Bool.not_eq_true', decide_eq_false_iff_not, ite_not, not_true_eq_false, not_false_eq_true, reduceCtorEq, and_true, true_and, and_self, Int.reduceEq, eq_self, hv, hcs, hl, hl2, hel0, ge_iff_le, ne_eq, a1, a2, b1, b2, hek, h0']
    have hrt : rets (e1, e2, e3, e4) = false := by unfold rets; simp [d3, d4]
    have ha : allowsB st (e1, e2, e3, e4) = true := by unfold allowsB; rw [hrt]; simp
    rw [ha, if_neg (by decide)]
    refine ⟨e2, cv, hv, hcs, fun _ => ⟨rfl, by unfold stepSt; rw [if_neg c2, hrt, if_neg (by decide)]; exact hI⟩, fun base => ?_⟩
    have hfz : freeze σ.length σ 6 (.tup [.agg [.int .i64 e2, cv], .int .i64 0]) = some (.tup [.agg [.int .i64 e2, cv], .int .i64 0]) := by
      cases hI with
      | nil b s => exact freeze_st2 (st := [])
      | list b st => exact freeze_st2
    refine callL_pure (σ' := σ) (v := .tup [.agg [.int .i64 e2, cv], .int .i64 0]) Tryz.func69 rfl (by kernel_rfl) rfl rfl (by simp) ?_ ?_
    rotate_left
    · exact hfz
    rw [z_body]
    unfold superA
    clear hS hI hfz ha
    generalize ints st = A at *
    generalize es.map edgeA = E at *
    simp (config := { maxSteps := 4000000 }) only [Tryz.f69, go_sem, Nat.reduceBEq, Nat.reduceAdd, Nat.reduceSub, Nat.reduceEqDiff, Nat.reduceLeDiff, Nat.reduceMul, rgT, z_regionT, allocs, isv?, z_step, z_stepE, okDst, wantedA, evalOp, evalV, evalS, storeAt, look, ofV, ofC, putA, clearA, lookV, lookVs, lookParts, adrOk, baseAt, baseOf, loadAt, partA, binA, unA, resOf, mkRes, envOf, List.range, List.range.loop, evalBuiltin, liveW, regOf, startE, optN, mapGet, mapPut, orZero, keyOk, cellOk, decide_eq_true_eq, Bool.not_eq_true', decide_eq_false_iff_not, ite_not, not_true_eq_false, not_false_eq_true, reduceCtorEq, and_true, true_and, and_self, Int.reduceEq, eq_self, hv, hcs, hl, hl2, hel0, ge_iff_le, ne_eq, a1, a2, b1, b2, hek, c2, d3, d4]
  · rw [if_pos a3]
    refine ⟨0, .list true 0 [], rfl, rfl, fun h => absurd h (by decide), fun base => ?_⟩
    refine callL_pure (σ' := σ) (v := .tup [.agg [.int .i64 0, .list true 0 []], .int .i64 16]) Tryz.func69 rfl (by kernel_rfl) rfl rfl (by simp) ?_ rfl
    rw [z_body]
    unfold superA
    clear hS hI
    generalize es.map edgeA = E at *
    simp (config := { maxSteps := 4000000 }) only [Tryz.f69, go_sem, Nat.reduceBEq, Nat.reduceAdd, Nat.reduceSub, Nat.reduceEqDiff, Nat.reduceLeDiff, Nat.reduceMul, rgT, z_regionT, allocs, isv?, z_step, z_stepE, okDst, wantedA, evalOp, evalV, evalS, storeAt, look, ofV, ofC, putA, clearA, lookV, lookVs, lookParts, adrOk, baseAt, baseOf, loadAt, partA, binA, unA, resOf, mkRes, envOf, List.range, List.range.loop, evalBuiltin, liveW, regOf, startE, optN, mapGet, mapPut, orZero, keyOk, cellOk, decide_eq_true_eq, Bool.not_eq_true', decide_eq_false_iff_not, ite_not, not_true_eq_false, not_false_eq_true, reduceCtorEq, and_true, true_and, and_self, Int.reduceEq, eq_self, hv, hcs, hl, hl2, hel0, ge_iff_le, ne_eq, a1, a2, b1, b2, hek, a3]

set_option maxRecDepth 100000 in
set_option maxHeartbeats 8000000 in
theorem cStart {σ : St} {base : Nat} {ns : List ND} {es : List ED} {m n : Int} :
    callL Tryz.prog cfI 68 [.agg (superA ns es m), .int .i64 n] σ base = some (.tup [.agg [.int .i64 (if beginErr ns es m n = 0 then n else 0), .list true 0 []], .int .i64 (beginErr ns es m n)], σ) := by
  have hl : lenS (.list false 3 (ns.map nodeA)) = some ns.length := by simp [lenS]
  have hG := fun b => c24 (σ := σ) (base := b) (fn := false) (fe := false) (ns := ns) (es := es) (m := m)
  refine callL_pure (σ' := σ) (v := .tup [.agg [.int .i64 (if beginErr ns es m n = 0 then n else 0), .list true 0 []], .int .i64 (beginErr ns es m n)]) Tryz.func68 rfl (by kernel_rfl) rfl rfl (by simp) ?_ rfl
  rw [z_body]
  unfold superA beginErr
  generalize superErr ns es m = g at *
  generalize ns.map nodeA = N at *
  generalize es.map edgeA = E at *
  by_cases h1 : g = 0
  · subst h1
    by_cases h2 : n < 0
    · simp (config := { maxSteps := 4000000 }) only [Tryz.f68, go_sem, Nat.reduceBEq, Nat.reduceAdd, Nat.reduceSub, Nat.reduceEqDiff, Nat.reduceLeDiff, Nat.reduceMul, rgT, z_regionT, allocs, isv?, z_step, z_stepE, okDst, wantedA, evalOp, evalV, evalS, storeAt, look, ofV, ofC, putA, clearA, lookV, lookVs, lookParts, adrOk, baseAt, baseOf, loadAt, partA, binA, unA, resOf, mkRes, envOf, List.range, List.range.loop, evalBuiltin, liveW, regOf, startE, optN, mapGet, mapPut, orZero, keyOk, cellOk, decide_eq_true_eq, Bool.not_eq_true', decide_eq_false_iff_not, ite_not, not_true_eq_false, not_false_eq_true, reduceCtorEq, and_true, true_and, and_self, Int.reduceEq, ge_iff_le, ne_eq, hl, hG, h2, true_or, if_true, if_false]
    · by_cases h3 : (ns.length : Int) ≤ n
      · simp (config := { maxSteps := 4000000 }) only [Tryz.f68, go_sem, Nat.reduceBEq, Nat.reduceAdd, Nat.reduceSub, Nat.reduceEqDiff, Nat.reduceLeDiff, Nat.reduceMul, rgT, z_regionT, allocs, isv?, z_step, z_stepE, okDst, wantedA, evalOp, evalV, evalS, storeAt, look, ofV, ofC, putA, clearA, lookV, lookVs, lookParts, adrOk, baseAt, baseOf, loadAt, partA, binA, unA, resOf, mkRes, envOf, List.range, List.range.loop, evalBuiltin, liveW, regOf, startE, optN, mapGet, mapPut, orZero, keyOk, cellOk, decide_eq_true_eq, Bool.not_eq_true', decide_eq_false_iff_not, ite_not, not_true_eq_false, not_false_eq_true, reduceCtorEq, and_true, true_and, and_self, Int.reduceEq, ge_iff_le, ne_eq, hl, hG, h2, h3, or_true, if_true, if_false]
      · simp (config := { maxSteps := 4000000 }) only [Tryz.f68, go_sem, Nat.reduceBEq, Nat.reduceAdd, Nat.reduceSub, Nat.reduceEqDiff, Nat.reduceLeDiff, Nat.reduceMul, rgT, z_regionT, allocs, isv?, z_step, z_stepE, okDst, wantedA, evalOp, evalV, evalS, storeAt, look, ofV, ofC, putA, clearA, lookV, lookVs, lookParts, adrOk, baseAt, baseOf, loadAt, partA, binA, unA, resOf, mkRes, envOf, List.range, List.range.loop, evalBuiltin, liveW, regOf, startE, optN, mapGet, mapPut, orZero, keyOk, cellOk, decide_eq_true_eq, Bool.not_eq_true', decide_eq_false_iff_not, ite_not, not_true_eq_false, not_false_eq_true, reduceCtorEq, and_true, true_and, and_self, Int.reduceEq, ge_iff_le, ne_eq, hl, hG, h2, h3, or_self, if_true, if_false]
  · simp (config := { maxSteps := 4000000 }) only [Tryz.f68, go_sem, Nat.reduceBEq, Nat.reduceAdd, Nat.reduceSub, Nat.reduceEqDiff, Nat.reduceLeDiff, Nat.reduceMul, rgT, z_regionT, allocs, isv?, z_step, z_stepE, okDst, wantedA, evalOp, evalV, evalS, storeAt, look, ofV, ofC, putA, clearA, lookV, lookVs, lookParts, adrOk, baseAt, baseOf, loadAt, partA, binA, unA, resOf, mkRes, envOf, List.range, List.range.loop, evalBuiltin, liveW, regOf, startE, optN, mapGet, mapPut, orZero, keyOk, cellOk, decide_eq_true_eq, Bool.not_eq_true', decide_eq_false_iff_not, ite_not, not_true_eq_false, not_false_eq_true, reduceCtorEq, and_true, true_and, and_self, ge_iff_le, ne_eq, hl, hG, h1, if_true, if_false]

end Go.Can
