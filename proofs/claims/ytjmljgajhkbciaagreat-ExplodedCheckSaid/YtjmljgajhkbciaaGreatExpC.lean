/- Contracts: the check of a path; the links of an edge. -/
import Derived.Test.YtjmljgajhkbciaaGreatExpB
set_option linter.unusedSimpArgs false
set_option linter.unusedVariables false
namespace Go.Can
open Go Go.Proofs

def superA (ns : List ND) (es : List ED) (m : Int) : List AV := [.list false 3 (ns.map nodeA), .list false 4 (es.map edgeA), .int .i64 m]

/-- The error ahead of a path. -/
def beginErr (ns : List ND) (es : List ED) (m n : Int) : Int := if superErr ns es m ≠ 0 then superErr ns es m else if n < 0 ∨ n ≥ ns.length then 4 else 0

set_option maxRecDepth 100000 in
set_option maxHeartbeats 4000000 in
theorem c102 {σ : St} {base : Nat} {ns : List ND} {es : List ED} {m n : Int} :
    callL Tryz.prog cfI 58 [.agg (superA ns es m), .int .i64 n] σ base = some (.tup [.agg [.int .i64 (if beginErr ns es m n = 0 then n else 0), .list true 0 []], .int .i64 (beginErr ns es m n)], σ) := by
  have hl : lenS (.list false 3 (ns.map nodeA)) = some ns.length := by simp [lenS]
  have hG := fun b => c20 (σ := σ) (base := b) (fn := false) (fe := false) (ns := ns) (es := es) (m := m)
  refine callL_pure (σ' := σ) (v := .tup [.agg [.int .i64 (if beginErr ns es m n = 0 then n else 0), .list true 0 []], .int .i64 (beginErr ns es m n)]) Tryz.func58 rfl (by kernel_rfl) rfl rfl (by simp) ?_ rfl
  rw [z_body]
  unfold superA beginErr
  generalize superErr ns es m = g at *
  generalize ns.map nodeA = N at *
  generalize es.map edgeA = E at *
  by_cases h1 : g = 0
  · subst h1
    by_cases h2 : n < 0
    · simp (config := { maxSteps := 4000000 }) only [Tryz.f58, go_sem, Nat.reduceBEq, Nat.reduceAdd, Nat.reduceSub, Nat.reduceEqDiff, Nat.reduceLeDiff, Nat.reduceMul, rgT, z_regionT, allocs, isv?, z_step, z_stepE, okDst, wantedA, evalOp, evalV, evalS, storeAt, look, ofV, ofC, putA, clearA, lookV, lookVs, lookParts, adrOk, baseAt, baseOf, loadAt, partA, binA, unA, resOf, mkRes, envOf, List.range, List.range.loop, evalBuiltin, liveW, regOf, startE, optN, mapGet, mapPut, orZero, keyOk, cellOk, decide_eq_true_eq, Bool.not_eq_true', decide_eq_false_iff_not, ite_not, not_true_eq_false, not_false_eq_true, reduceCtorEq, and_true, true_and, and_self, Int.reduceEq, ge_iff_le, ne_eq, hl, hG, h2, true_or, if_true, if_false]
    · by_cases h3 : (ns.length : Int) ≤ n
      · simp (config := { maxSteps := 4000000 }) only [Tryz.f58, go_sem, Nat.reduceBEq, Nat.reduceAdd, Nat.reduceSub, Nat.reduceEqDiff, Nat.reduceLeDiff, Nat.reduceMul, rgT, z_regionT, allocs, isv?, z_step, z_stepE, okDst, wantedA, evalOp, evalV, evalS, storeAt, look, ofV, ofC, putA, clearA, lookV, lookVs, lookParts, adrOk, baseAt, baseOf, loadAt, partA, binA, unA, resOf, mkRes, envOf, List.range, List.range.loop, evalBuiltin, liveW, regOf, startE, optN, mapGet, mapPut, orZero, keyOk, cellOk, decide_eq_true_eq, Bool.not_eq_true', decide_eq_false_iff_not, ite_not, not_true_eq_false, not_false_eq_true, reduceCtorEq, and_true, true_and, and_self, Int.reduceEq, ge_iff_le, ne_eq, hl, hG, h2, h3, or_true, if_true, if_false]
      · simp (config := { maxSteps := 4000000 }) only [Tryz.f58, go_sem, Nat.reduceBEq, Nat.reduceAdd, Nat.reduceSub, Nat.reduceEqDiff, Nat.reduceLeDiff, Nat.reduceMul, rgT, z_regionT, allocs, isv?, z_step, z_stepE, okDst, wantedA, evalOp, evalV, evalS, storeAt, look, ofV, ofC, putA, clearA, lookV, lookVs, lookParts, adrOk, baseAt, baseOf, loadAt, partA, binA, unA, resOf, mkRes, envOf, List.range, List.range.loop, evalBuiltin, liveW, regOf, startE, optN, mapGet, mapPut, orZero, keyOk, cellOk, decide_eq_true_eq, Bool.not_eq_true', decide_eq_false_iff_not, ite_not, not_true_eq_false, not_false_eq_true, reduceCtorEq, and_true, true_and, and_self, Int.reduceEq, ge_iff_le, ne_eq, hl, hG, h2, h3, or_self, if_true, if_false]
  · simp (config := { maxSteps := 4000000 }) only [Tryz.f58, go_sem, Nat.reduceBEq, Nat.reduceAdd, Nat.reduceSub, Nat.reduceEqDiff, Nat.reduceLeDiff, Nat.reduceMul, rgT, z_regionT, allocs, isv?, z_step, z_stepE, okDst, wantedA, evalOp, evalV, evalS, storeAt, look, ofV, ofC, putA, clearA, lookV, lookVs, lookParts, adrOk, baseAt, baseOf, loadAt, partA, binA, unA, resOf, mkRes, envOf, List.range, List.range.loop, evalBuiltin, liveW, regOf, startE, optN, mapGet, mapPut, orZero, keyOk, cellOk, decide_eq_true_eq, Bool.not_eq_true', decide_eq_false_iff_not, ite_not, not_true_eq_false, not_false_eq_true, reduceCtorEq, and_true, true_and, and_self, ge_iff_le, ne_eq, hl, hG, h1, if_true, if_false]

/-- The error along a path. -/
def pathErr (es : List ED) : Int → List Int → List Int → Int
  | _, _, [] => 0
  | node, st, k :: r => if k < 0 ∨ k ≥ es.length then 4 else if (eAt es k.toNat).1 ≠ node then 16 else if allowsB st (eAt es k.toNat) = false then 20
    else pathErr es (eAt es k.toNat).2.1 (stepSt st (eAt es k.toNat)) r

theorem stepSt_len {st : List Int} {e : ED} : (stepSt st e).length ≤ st.length + 1 := by
  unfold stepSt
  split
  · simp
  · split
    · simp; omega
    · omega

set_option maxRecDepth 100000 in
set_option maxHeartbeats 8000000 in
theorem loop83 {σ : St} {ns : List ND} {es : List ED} {m : Int} {fp : Bool} {path : List Int} (hlen : path.length ≤ 4096) : ∀ c (i : Nat) (node : Int) (cv : AV) (st : List Int), i + c = path.length → IsI cv st → st.length ≤ i →
    (pathErr es node st (path.drop i) = 0 → ∃ node' cv', (Slot.val cv').v = some cv' ∧ cv'.cells = [cv'] ∧ (∃ s', IsI cv' s') ∧ loopM Tryz.prog cfI 36 σ.length (loopOf Tryz.f36 7) (envS 73 [(3, .var (superA ns es m)), (6, .var [.int .i64 0, .list true 0 []]), (8, .var [.int .i64 node, cv]), (26, .val (.list fp 1 (ints path))), (27, .val (.int .i64 path.length)), (28, .val (.int .i64 i))], σ) = some (.exit 0, envS 73 [(6, .var [.int .i64 0, .list true 0 []]), (8, .var [.int .i64 node', cv'])], σ)) ∧
    (¬ pathErr es node st (path.drop i) = 0 → loopM Tryz.prog cfI 36 σ.length (loopOf Tryz.f36 7) (envS 73 [(3, .var (superA ns es m)), (6, .var [.int .i64 0, .list true 0 []]), (8, .var [.int .i64 node, cv]), (26, .val (.list fp 1 (ints path))), (27, .val (.int .i64 path.length)), (28, .val (.int .i64 i))], σ) = some (.ret, envS 73 [(6, .var [.int .i64 0, .list true 0 []]), (7, .val (.int .i64 (pathErr es node st (path.drop i))))], σ)) := by
  have hl : lenS (.list fp 1 (ints path)) = some path.length := by simp [lenS, ints_len]
  have hl2 : lenS (.list false 4 (es.map edgeA)) = some es.length := by simp [lenS]
  intro c
  induction c with
  | zero =>
    intro i node cv st hi hI hst
    have hi' : ¬ ((i : Int) < path.length) := by omega
    have hd : path.drop i = [] := List.drop_eq_nil_of_le (by omega)
    have hS := hI.sl (σ := σ)
    have hv := hS.v
    have hcs := hS.cells
    rw [hd]
    refine ⟨fun _ => ⟨node, cv, hv, hcs, ⟨st, hI⟩, ?_⟩, fun h => absurd rfl h⟩
    rw [loopM_step (by kernel_rfl)]
    simp only [loopOf, findLoop, regOf, Option.getD, envOf, List.range, List.range.loop, go_sem, Nat.reduceBEq, Nat.reduceEqDiff, Option.some.injEq, reduceCtorEq, envS, Tryz.f36, superA]
    simp only [go_sem, Nat.reduceBEq, Nat.reduceAdd, Nat.reduceSub, Nat.reduceEqDiff, Nat.reduceLeDiff, Nat.reduceMul, rgT, z_regionT, allocs, isv?, z_step, z_stepE, okDst, wantedA, evalOp, evalV, evalS, storeAt, look, ofV, ofC, putA, clearA, lookV, lookVs, lookParts, adrOk, baseAt, baseOf, loadAt, partA, binA, unA, resOf, mkRes, envOf, List.range, List.range.loop, evalBuiltin, liveW, regOf, startE, optN, mapGet, mapPut, orZero, keyOk, cellOk, decide_eq_true_eq, Bool.not_eq_true', decide_eq_false_iff_not, ite_not, not_true_eq_false, not_false_eq_true, reduceCtorEq, and_true, true_and, and_self, envS, hi', hv, hcs]
  | succ c ih =>
    intro i node cv st hi hI hst
    have hlt : i < path.length := by omega
    obtain ⟨k, hd, hel, hget⟩ := drop_at (AV.int .i64) hlt
    have hw := w_inc hlt (by omega)
    have hlt' : (i : Int) < (path.length : Int) := by omega
    have h0i : (0 : Int) ≤ (i : Int) := by omega
    have hS := hI.sl (σ := σ)
    have hv := hS.v
    have hcs := hS.cells
    have hiv : (ints path)[i]? = some (.int .i64 k) := hel
    rw [hd]
    unfold pathErr
    by_cases a1 : k < 0
    · rw [if_pos (.inl a1)]
      refine ⟨fun h => absurd h (by decide), fun _ => ?_⟩
      rw [loopM_step (by kernel_rfl)]
      simp only [loopOf, findLoop, regOf, Option.getD, envOf, List.range, List.range.loop, go_sem, Nat.reduceBEq, Nat.reduceEqDiff, Option.some.injEq, reduceCtorEq, envS, Tryz.f36, superA]
      generalize ints path = A at *
      generalize es.map edgeA = E at *
      simp (config := { maxSteps := 4000000 }) only [go_sem, Nat.reduceBEq, Nat.reduceAdd, Nat.reduceSub, Nat.reduceEqDiff, Nat.reduceLeDiff, Nat.reduceMul, rgT, z_regionT, allocs, isv?, z_step, z_stepE, okDst, wantedA, evalOp, evalV, evalS, storeAt, look, ofV, ofC, putA, clearA, lookV, lookVs, lookParts, adrOk, baseAt, baseOf, loadAt, partA, binA, unA, resOf, mkRes, envOf, List.range, List.range.loop, evalBuiltin, liveW, regOf, startE, optN, mapGet, mapPut, orZero, keyOk, cellOk, decide_eq_true_eq, Bool.not_eq_true', decide_eq_false_iff_not, ite_not, not_true_eq_false, not_false_eq_true, reduceCtorEq, and_true, true_and, and_self, envS, ge_iff_le, hlt', h0i, hl, hl2, hiv, hv, hcs, a1]
    by_cases a2 : (es.length : Int) ≤ k
    · rw [if_pos (.inr a2)]
      refine ⟨fun h => absurd h (by decide), fun _ => ?_⟩
      rw [loopM_step (by kernel_rfl)]
      simp only [loopOf, findLoop, regOf, Option.getD, envOf, List.range, List.range.loop, go_sem, Nat.reduceBEq, Nat.reduceEqDiff, Option.some.injEq, reduceCtorEq, envS, Tryz.f36, superA]
      generalize ints path = A at *
      generalize es.map edgeA = E at *
      simp (config := { maxSteps := 4000000 }) only [go_sem, Nat.reduceBEq, Nat.reduceAdd, Nat.reduceSub, Nat.reduceEqDiff, Nat.reduceLeDiff, Nat.reduceMul, rgT, z_regionT, allocs, isv?, z_step, z_stepE, okDst, wantedA, evalOp, evalV, evalS, storeAt, look, ofV, ofC, putA, clearA, lookV, lookVs, lookParts, adrOk, baseAt, baseOf, loadAt, partA, binA, unA, resOf, mkRes, envOf, List.range, List.range.loop, evalBuiltin, liveW, regOf, startE, optN, mapGet, mapPut, orZero, keyOk, cellOk, decide_eq_true_eq, Bool.not_eq_true', decide_eq_false_iff_not, ite_not, not_true_eq_false, not_false_eq_true, reduceCtorEq, and_true, true_and, and_self, envS, ge_iff_le, hlt', h0i, hl, hl2, hiv, hv, hcs, a1, a2]
    rw [if_neg (by omega)]
    have hk : k.toNat < es.length := by omega
    obtain ⟨⟨e1, e2, e3, e4⟩, _, hek, hgk⟩ := drop_at edgeA hk
    have heq : eAt es k.toNat = (e1, e2, e3, e4) := by unfold eAt; rw [List.getD_eq_getElem?_getD, hgk]; rfl
    rw [heq]
    replace hek : (es.map edgeA)[k.toNat]? = some (.agg [.int .i64 e1, .int .i64 e2, .int .i64 e3, .int .i64 e4]) := hek
    have b1 : 0 ≤ k := by omega
    have b2 : k < (es.length : Int) := by omega
    by_cases a3 : e1 = node
    · subst a3
      rw [if_neg (fun h => h rfl)]
      have h103 := fun b => c103 (σ := σ) (base := b) (n := e1) (e1 := e1) (e2 := e2) (e3 := e3) (e4 := e4) hI (by omega)
      cases ha : allowsB st (e1, e2, e3, e4) with
      | false =>
        rw [if_pos rfl]
        refine ⟨fun h => absurd h (by decide), fun _ => ?_⟩
        rw [ha] at h103
        rw [loopM_step (by kernel_rfl)]
        simp only [loopOf, findLoop, regOf, Option.getD, envOf, List.range, List.range.loop, go_sem, Nat.reduceBEq, Nat.reduceEqDiff, Option.some.injEq, reduceCtorEq, envS, Tryz.f36, superA]
        clear hd hget hgk heq hS hI
        generalize ints path = A at *
        generalize es.map edgeA = E at *
        simp (config := { maxSteps := 4000000 }) only [go_sem, Nat.reduceBEq, Nat.reduceAdd, Nat.reduceSub, Nat.reduceEqDiff, Nat.reduceLeDiff, Nat.reduceMul, rgT, z_regionT, allocs, isv?, z_step, z_stepE, okDst, wantedA, evalOp, evalV, evalS, storeAt, look, ofV, ofC, putA, clearA, lookV, lookVs, lookParts, adrOk, baseAt, baseOf, loadAt, partA, binA, unA, resOf, mkRes, envOf, List.range, List.range.loop, evalBuiltin, liveW, regOf, startE, optN, mapGet, mapPut, orZero, keyOk, cellOk, decide_eq_true_eq, Bool.not_eq_true', decide_eq_false_iff_not, ite_not, not_true_eq_false, not_false_eq_true, reduceCtorEq, and_true, true_and, and_self, envS, ge_iff_le, ne_eq, hlt', h0i, hl, hl2, hiv, hv, hcs, a1, a2, b1, b2, hek, eq_self, h103]
      | true =>
        rw [if_neg (by decide)]
        rw [ha] at h103
        have hr : rets (e1, e2, e3, e4) = true → 0 < st.length := by
          intro hr
          unfold allowsB at ha
          rw [hr] at ha
          simp at ha
          exact ha.1
        obtain ⟨c2, hI2, h104⟩ := c104 (σ := σ) (n := e1) hI (by omega) hr
        have hlen2 := stepSt_len (st := st) (e := (e1, e2, e3, e4))
        obtain ⟨ih1, ih2⟩ := ih (i + 1) e2 c2 (stepSt st (e1, e2, e3, e4)) (by omega) hI2 (by omega)
        have hS2 := hI2.sl (σ := σ)
        have hv2 := hS2.v
        have hcs2 := hS2.cells
        have step : loopM Tryz.prog cfI 36 σ.length (loopOf Tryz.f36 7) (envS 73 [(3, .var (superA ns es m)), (6, .var [.int .i64 0, .list true 0 []]), (8, .var [.int .i64 e1, cv]), (26, .val (.list fp 1 (ints path))), (27, .val (.int .i64 path.length)), (28, .val (.int .i64 i))], σ) = loopM Tryz.prog cfI 36 σ.length (loopOf Tryz.f36 7) (envS 73 [(3, .var (superA ns es m)), (6, .var [.int .i64 0, .list true 0 []]), (8, .var [.int .i64 e2, c2]), (26, .val (.list fp 1 (ints path))), (27, .val (.int .i64 path.length)), (28, .val (.int .i64 ((i + 1 : Nat) : Int)))], σ) := by
          conv => lhs; rw [loopM_step (by kernel_rfl)]
          simp only [loopOf, findLoop, regOf, Option.getD, envOf, List.range, List.range.loop, go_sem, Nat.reduceBEq, Nat.reduceEqDiff, Option.some.injEq, reduceCtorEq, envS, Tryz.f36, superA]
          clear ih ih1 ih2 hd hget hgk heq hS hI hS2 hI2
          generalize ints path = A at *
          generalize es.map edgeA = E at *
          simp (config := { maxSteps := 4000000 }) only [go_sem, Nat.reduceBEq, Nat.reduceAdd, Nat.reduceSub, Nat.reduceEqDiff, Nat.reduceLeDiff, Nat.reduceMul, rgT, z_regionT, allocs, isv?, z_step, z_stepE, okDst, wantedA, evalOp, evalV, evalS, storeAt, look, ofV, ofC, putA, clearA, lookV, lookVs, lookParts, adrOk, baseAt, baseOf, loadAt, partA, binA, unA, resOf, mkRes, envOf, List.range, List.range.loop, evalBuiltin, liveW, regOf, startE, optN, mapGet, mapPut, orZero, keyOk, cellOk, decide_eq_true_eq, Bool.not_eq_true', decide_eq_false_iff_not, ite_not, not_true_eq_false, not_false_eq_true, reduceCtorEq, and_true, true_and, and_self, envS, ge_iff_le, ne_eq, hlt', h0i, hl, hl2, hiv, hv, hcs, hv2, hcs2, a1, a2, b1, b2, hek, eq_self, h103, h104, hw]
        rw [step]
        exact ⟨ih1, ih2⟩
    · rw [if_pos a3]
      refine ⟨fun h => absurd h (by decide), fun _ => ?_⟩
      rw [loopM_step (by kernel_rfl)]
      simp only [loopOf, findLoop, regOf, Option.getD, envOf, List.range, List.range.loop, go_sem, Nat.reduceBEq, Nat.reduceEqDiff, Option.some.injEq, reduceCtorEq, envS, Tryz.f36, superA]
      clear hd hget hgk heq hS hI
      generalize ints path = A at *
      generalize es.map edgeA = E at *
      simp (config := { maxSteps := 4000000 }) only [go_sem, Nat.reduceBEq, Nat.reduceAdd, Nat.reduceSub, Nat.reduceEqDiff, Nat.reduceLeDiff, Nat.reduceMul, rgT, z_regionT, allocs, isv?, z_step, z_stepE, okDst, wantedA, evalOp, evalV, evalS, storeAt, look, ofV, ofC, putA, clearA, lookV, lookVs, lookParts, adrOk, baseAt, baseOf, loadAt, partA, binA, unA, resOf, mkRes, envOf, List.range, List.range.loop, evalBuiltin, liveW, regOf, startE, optN, mapGet, mapPut, orZero, keyOk, cellOk, decide_eq_true_eq, Bool.not_eq_true', decide_eq_false_iff_not, ite_not, not_true_eq_false, not_false_eq_true, reduceCtorEq, and_true, true_and, and_self, envS, ge_iff_le, ne_eq, hlt', h0i, hl, hl2, hiv, hv, hcs, a1, a2, b1, b2, hek, a3]

/-- The error of a path. -/
def vpathErr (ns : List ND) (es : List ED) (m n : Int) (path : List Int) : Int :=
  if beginErr ns es m n ≠ 0 then beginErr ns es m n else if (path.length : Int) > 4096 then 3 else pathErr es n [] path

set_option maxRecDepth 100000 in
set_option maxHeartbeats 8000000 in
theorem c83 {σ : St} {ns : List ND} {es : List ED} {m n : Int} {fp : Bool} {path : List Int} (hpl : path.length < 2^63) :
    ∃ node cv, (Slot.val cv).v = some cv ∧ cv.cells = [cv] ∧ ∀ base, callL Tryz.prog cfI 36 [.agg (superA ns es m), .int .i64 n, .list fp 1 (ints path)] σ base = some (.tup [.agg [.int .i64 node, cv], .int .i64 (vpathErr ns es m n path)], σ) := by
  have hl : lenS (.list fp 1 (ints path)) = some path.length := by simp [lenS, ints_len]
  have h102 := fun b => c102 (σ := σ) (base := b) (ns := ns) (es := es) (m := m) (n := n)
  unfold vpathErr
  generalize hB : beginErr ns es m n = g at *
  by_cases h1 : g = 0
  · rw [if_neg (fun h => h h1)]
    by_cases h2 : (4096 : Int) < (path.length : Int)
    · rw [if_pos h2]
      refine ⟨0, .list true 0 [], rfl, rfl, fun base => ?_⟩
      refine callL_pure (σ' := σ) (v := .tup [.agg [.int .i64 0, .list true 0 []], .int .i64 3]) Tryz.func36 rfl (by kernel_rfl) rfl rfl (by simp) ?_ rfl
      rw [z_body]
      subst h1
      simp only [if_true] at h102
      unfold superA at *
      generalize ints path = A at *
      generalize es.map edgeA = E at *
      generalize ns.map nodeA = N at *
      simp (config := { maxSteps := 4000000 }) only [Tryz.f36, go_sem, Nat.reduceBEq, Nat.reduceAdd, Nat.reduceSub, Nat.reduceEqDiff, Nat.reduceLeDiff, Nat.reduceMul, rgT, z_regionT, allocs, isv?, z_step, z_stepE, okDst, wantedA, evalOp, evalV, evalS, storeAt, look, ofV, ofC, putA, clearA, lookV, lookVs, lookParts, adrOk, baseAt, baseOf, loadAt, partA, binA, unA, resOf, mkRes, envOf, List.range, List.range.loop, evalBuiltin, liveW, regOf, startE, optN, mapGet, mapPut, orZero, keyOk, cellOk, decide_eq_true_eq, Bool.not_eq_true', decide_eq_false_iff_not, ite_not, not_true_eq_false, not_false_eq_true, reduceCtorEq, and_true, true_and, and_self, Int.reduceEq, ne_eq, gt_iff_lt, hl, h102, h2]
    · rw [if_neg h2]
      obtain ⟨k1, k2⟩ := loop83 (σ := σ) (ns := ns) (es := es) (m := m) (fp := fp) (path := path) (by omega) path.length 0 n (.list true 0 []) [] (by omega) (.nil true 0) (by simp)
      rw [show ((0 : Nat) : Int) = 0 from rfl, List.drop_zero] at k1 k2
      subst h1
      simp only [if_true] at h102
      simp only [loopOf, findLoop, regOf, Option.getD, envOf, List.range, List.range.loop, go_sem, Nat.reduceBEq, Nat.reduceEqDiff, Option.some.injEq, reduceCtorEq, envS, Tryz.f36] at k1 k2
      generalize pathErr es n [] path = q at *
      by_cases h3 : q = 0
      · obtain ⟨node, cv, v1, v2, ⟨s', hI⟩, k⟩ := k1 h3
        subst h3
        refine ⟨node, cv, v1, v2, fun base => ?_⟩
        have hfz : freeze σ.length σ 6 (.tup [.agg [.int .i64 node, cv], .int .i64 0]) = some (.tup [.agg [.int .i64 node, cv], .int .i64 0]) := by
          have h5 : freeze σ.length σ 5 (.agg [.int .i64 node, cv]) = some (.agg [.int .i64 node, cv]) := by
            cases hI with
            | nil b s => exact freeze_list5 (st := [])
            | list b st => exact freeze_list5
          exact freeze_tup (n := 5) (freezeL_two h5 rfl)
        refine callL_pure (σ' := σ) (v := .tup [.agg [.int .i64 node, cv], .int .i64 0]) Tryz.func36 rfl (by kernel_rfl) rfl rfl (by simp) ?_ ?_
        rotate_left
        · exact hfz
        rw [z_body]
        clear k1 k2 hfz hI
        unfold superA at *
        generalize ints path = A at *
        generalize es.map edgeA = E at *
        generalize ns.map nodeA = N at *
        simp (config := { maxSteps := 4000000 }) only [Tryz.f36, go_sem, Nat.reduceBEq, Nat.reduceAdd, Nat.reduceSub, Nat.reduceEqDiff, Nat.reduceLeDiff, Nat.reduceMul, rgT, z_regionT, allocs, isv?, z_step, z_stepE, okDst, wantedA, evalOp, evalV, evalS, storeAt, look, ofV, ofC, putA, clearA, lookV, lookVs, lookParts, adrOk, baseAt, baseOf, loadAt, partA, binA, unA, resOf, mkRes, envOf, List.range, List.range.loop, evalBuiltin, liveW, regOf, startE, optN, mapGet, mapPut, orZero, keyOk, cellOk, decide_eq_true_eq, Bool.not_eq_true', decide_eq_false_iff_not, ite_not, not_true_eq_false, not_false_eq_true, reduceCtorEq, and_true, true_and, and_self, Int.reduceEq, ne_eq, gt_iff_lt, hl, h102, h2, k, v1, v2]
      · have k := k2 h3
        refine ⟨0, .list true 0 [], rfl, rfl, fun base => ?_⟩
        refine callL_pure (σ' := σ) (v := .tup [.agg [.int .i64 0, .list true 0 []], .int .i64 q]) Tryz.func36 rfl (by kernel_rfl) rfl rfl (by simp) ?_ rfl
        rw [z_body]
        clear k1 k2
        unfold superA at *
        generalize ints path = A at *
        generalize es.map edgeA = E at *
        generalize ns.map nodeA = N at *
        simp (config := { maxSteps := 4000000 }) only [Tryz.f36, go_sem, Nat.reduceBEq, Nat.reduceAdd, Nat.reduceSub, Nat.reduceEqDiff, Nat.reduceLeDiff, Nat.reduceMul, rgT, z_regionT, allocs, isv?, z_step, z_stepE, okDst, wantedA, evalOp, evalV, evalS, storeAt, look, ofV, ofC, putA, clearA, lookV, lookVs, lookParts, adrOk, baseAt, baseOf, loadAt, partA, binA, unA, resOf, mkRes, envOf, List.range, List.range.loop, evalBuiltin, liveW, regOf, startE, optN, mapGet, mapPut, orZero, keyOk, cellOk, decide_eq_true_eq, Bool.not_eq_true', decide_eq_false_iff_not, ite_not, not_true_eq_false, not_false_eq_true, reduceCtorEq, and_true, true_and, and_self, Int.reduceEq, ne_eq, gt_iff_lt, hl, h102, h2, k]
  · rw [if_pos h1]
    refine ⟨0, .list true 0 [], rfl, rfl, fun base => ?_⟩
    refine callL_pure (σ' := σ) (v := .tup [.agg [.int .i64 0, .list true 0 []], .int .i64 g]) Tryz.func36 rfl (by kernel_rfl) rfl rfl (by simp) ?_ rfl
    rw [z_body]
    simp only [h1, if_false] at h102
    unfold superA at *
    generalize ints path = A at *
    generalize es.map edgeA = E at *
    generalize ns.map nodeA = N at *
    simp (config := { maxSteps := 4000000 }) only [Tryz.f36, go_sem, Nat.reduceBEq, Nat.reduceAdd, Nat.reduceSub, Nat.reduceEqDiff, Nat.reduceLeDiff, Nat.reduceMul, rgT, z_regionT, allocs, isv?, z_step, z_stepE, okDst, wantedA, evalOp, evalV, evalS, storeAt, look, ofV, ofC, putA, clearA, lookV, lookVs, lookParts, adrOk, baseAt, baseOf, loadAt, partA, binA, unA, resOf, mkRes, envOf, List.range, List.range.loop, evalBuiltin, liveW, regOf, startE, optN, mapGet, mapPut, orZero, keyOk, cellOk, decide_eq_true_eq, Bool.not_eq_true', decide_eq_false_iff_not, ite_not, not_true_eq_false, not_false_eq_true, reduceCtorEq, and_true, true_and, and_self, ne_eq, gt_iff_lt, hl, h102, h1]

set_option maxRecDepth 100000 in
set_option maxHeartbeats 8000000 in
theorem c55 {σ : St} {base : Nat} {ns : List ND} {es : List ED} {m n : Int} {fp : Bool} {path : List Int} (hpl : path.length < 2^63) :
    callL Tryz.prog cfI 16 [.agg (superA ns es m), .int .i64 n, .list fp 1 (ints path)] σ base = some (.int .i64 (vpathErr ns es m n path), σ) := by
  obtain ⟨node, cv, v1, v2, h83⟩ := c83 (σ := σ) (ns := ns) (es := es) (m := m) (n := n) (fp := fp) hpl
  refine callL_pure (σ' := σ) (v := .int .i64 (vpathErr ns es m n path)) Tryz.func16 rfl (by kernel_rfl) rfl rfl (by simp) ?_ rfl
  rw [z_body]
  unfold superA at *
  generalize vpathErr ns es m n path = q at *
  generalize ints path = A at *
  generalize es.map edgeA = E at *
  generalize ns.map nodeA = N at *
  simp (config := { maxSteps := 4000000 }) only [Tryz.f16, go_sem, Nat.reduceBEq, Nat.reduceAdd, Nat.reduceSub, Nat.reduceEqDiff, Nat.reduceLeDiff, Nat.reduceMul, rgT, z_regionT, allocs, isv?, z_step, z_stepE, okDst, wantedA, evalOp, evalV, evalS, storeAt, look, ofV, ofC, putA, clearA, lookV, lookVs, lookParts, adrOk, baseAt, baseOf, loadAt, partA, binA, unA, resOf, mkRes, envOf, List.range, List.range.loop, evalBuiltin, liveW, regOf, startE, optN, mapGet, mapPut, orZero, keyOk, cellOk, decide_eq_true_eq, Bool.not_eq_true', decide_eq_false_iff_not, ite_not, not_true_eq_false, not_false_eq_true, reduceCtorEq, and_true, true_and, and_self, h83, v1, v2]

end Go.Can
