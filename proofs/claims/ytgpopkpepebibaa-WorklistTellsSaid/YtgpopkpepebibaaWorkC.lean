/- Contracts: membership, equality. -/
import Derived.Test.YtgpopkpepebibaaWorkB
set_option linter.unusedSimpArgs false
set_option linter.unusedVariables false
namespace Go.Can
open Go Go.Proofs

/-- May 'x' be an item? -/
def fitB (rank : List Int) (x : Int) : Bool := if (rank.length : Int) > 0 then decide (x ≥ 0) && decide (x < rank.length) else decide (x ≥ 0) && decide (x < 65536)

set_option maxRecDepth 100000 in
set_option maxHeartbeats 4000000 in
theorem c29 {σ : St} {base : Nat} {r : AV} {rank : List Int} (hs : Sl σ 1 r (ints rank)) {x : Int} :
    callL Try.prog cfW 29 [r, .int .i64 x] σ base = some (.bool (fitB rank x), σ) := by
  have hl := hs.len
  have hv := hs.v
  refine callL_pure (σ' := σ) (v := .bool (fitB rank x)) Try.func29 rfl (by kernel_rfl) rfl rfl (by simp) ?_ rfl
  unfold bodyT fitB
  rw [ints_len] at hl
  by_cases h1 : (rank.length : Int) > 0
  · by_cases h2 : x ≥ 0
    · simp only [Try.f29, go_sem, Nat.reduceBEq, Nat.reduceAdd, Nat.reduceSub, Nat.reduceEqDiff, Nat.reduceLeDiff, Nat.reduceMul, rgT, regionT, cfVars, cfKeep, allocs, isv?, stepO, okDst, wantedA, evalOp, evalV, evalS, storeAt, look, ofV, ofC, putA, clearA, lookV, lookVs, lookParts, adrOk, baseAt, baseOf, loadAt, partA, binA, unA, resOf, mkRes, envOf, List.range, List.range.loop, evalBuiltin, liveW, cfLive, cfOut, cfRes, regOf, startE, optN, mapGet, mapPut, orZero, keyOk, cellOk, hl, hv, h1, h2]
    · simp only [Try.f29, go_sem, Nat.reduceBEq, Nat.reduceAdd, Nat.reduceSub, Nat.reduceEqDiff, Nat.reduceLeDiff, Nat.reduceMul, rgT, regionT, cfVars, cfKeep, allocs, isv?, stepO, okDst, wantedA, evalOp, evalV, evalS, storeAt, look, ofV, ofC, putA, clearA, lookV, lookVs, lookParts, adrOk, baseAt, baseOf, loadAt, partA, binA, unA, resOf, mkRes, envOf, List.range, List.range.loop, evalBuiltin, liveW, cfLive, cfOut, cfRes, regOf, startE, optN, mapGet, mapPut, orZero, keyOk, cellOk, hl, hv, h1, h2]
  · by_cases h2 : x ≥ 0
    · simp only [Try.f29, go_sem, Nat.reduceBEq, Nat.reduceAdd, Nat.reduceSub, Nat.reduceEqDiff, Nat.reduceLeDiff, Nat.reduceMul, rgT, regionT, cfVars, cfKeep, allocs, isv?, stepO, okDst, wantedA, evalOp, evalV, evalS, storeAt, look, ofV, ofC, putA, clearA, lookV, lookVs, lookParts, adrOk, baseAt, baseOf, loadAt, partA, binA, unA, resOf, mkRes, envOf, List.range, List.range.loop, evalBuiltin, liveW, cfLive, cfOut, cfRes, regOf, startE, optN, mapGet, mapPut, orZero, keyOk, cellOk, hl, hv, h1, h2]
    · simp only [Try.f29, go_sem, Nat.reduceBEq, Nat.reduceAdd, Nat.reduceSub, Nat.reduceEqDiff, Nat.reduceLeDiff, Nat.reduceMul, rgT, regionT, cfVars, cfKeep, allocs, isv?, stepO, okDst, wantedA, evalOp, evalV, evalS, storeAt, look, ofV, ofC, putA, clearA, lookV, lookVs, lookParts, adrOk, baseAt, baseOf, loadAt, partA, binA, unA, resOf, mkRes, envOf, List.range, List.range.loop, evalBuiltin, liveW, cfLive, cfOut, cfRes, regOf, startE, optN, mapGet, mapPut, orZero, keyOk, cellOk, hl, hv, h1, h2]

set_option maxRecDepth 100000 in
set_option maxHeartbeats 4000000 in
theorem c25 {σ : St} {base : Nat} {r i : AV} {rank : List Int} (hs : Sl σ 1 r (ints rank)) (hi : i.cells = [i]) {x : Int} :
    callL Try.prog cfW 25 [.agg [r, i], .int .i64 x] σ base = some (.bool (fitB rank x), σ) := by
  have hl := hs.len
  have hv := hs.v
  refine callL_pure (σ' := σ) (v := .bool (fitB rank x)) Try.func25 rfl (by kernel_rfl) rfl rfl (by simp) ?_ rfl
  unfold bodyT fitB
  rw [ints_len] at hl
  by_cases h1 : (rank.length : Int) = 0
  · have h0 : ¬ (rank.length : Int) > 0 := by omega
    by_cases h2 : x ≥ 0
    · simp only [Try.f25, go_sem, Nat.reduceBEq, Nat.reduceAdd, Nat.reduceSub, Nat.reduceEqDiff, Nat.reduceLeDiff, Nat.reduceMul, rgT, regionT, cfVars, cfKeep, allocs, isv?, stepO, okDst, wantedA, evalOp, evalV, evalS, storeAt, look, ofV, ofC, putA, clearA, lookV, lookVs, lookParts, adrOk, baseAt, baseOf, loadAt, partA, binA, unA, resOf, mkRes, envOf, List.range, List.range.loop, evalBuiltin, liveW, cfLive, cfOut, cfRes, regOf, startE, optN, mapGet, mapPut, orZero, keyOk, cellOk, hl, hv, h1, h2]
    · simp only [Try.f25, go_sem, Nat.reduceBEq, Nat.reduceAdd, Nat.reduceSub, Nat.reduceEqDiff, Nat.reduceLeDiff, Nat.reduceMul, rgT, regionT, cfVars, cfKeep, allocs, isv?, stepO, okDst, wantedA, evalOp, evalV, evalS, storeAt, look, ofV, ofC, putA, clearA, lookV, lookVs, lookParts, adrOk, baseAt, baseOf, loadAt, partA, binA, unA, resOf, mkRes, envOf, List.range, List.range.loop, evalBuiltin, liveW, cfLive, cfOut, cfRes, regOf, startE, optN, mapGet, mapPut, orZero, keyOk, cellOk, hl, hv, h1, h2]
  · have h0 : (rank.length : Int) > 0 := by omega
    by_cases h2 : x ≥ 0
    · simp only [Try.f25, go_sem, Nat.reduceBEq, Nat.reduceAdd, Nat.reduceSub, Nat.reduceEqDiff, Nat.reduceLeDiff, Nat.reduceMul, rgT, regionT, cfVars, cfKeep, allocs, isv?, stepO, okDst, wantedA, evalOp, evalV, evalS, storeAt, look, ofV, ofC, putA, clearA, lookV, lookVs, lookParts, adrOk, baseAt, baseOf, loadAt, partA, binA, unA, resOf, mkRes, envOf, List.range, List.range.loop, evalBuiltin, liveW, cfLive, cfOut, cfRes, regOf, startE, optN, mapGet, mapPut, orZero, keyOk, cellOk, hl, hv, h1, h2, h0]
    · simp only [Try.f25, go_sem, Nat.reduceBEq, Nat.reduceAdd, Nat.reduceSub, Nat.reduceEqDiff, Nat.reduceLeDiff, Nat.reduceMul, rgT, regionT, cfVars, cfKeep, allocs, isv?, stepO, okDst, wantedA, evalOp, evalV, evalS, storeAt, look, ofV, ofC, putA, clearA, lookV, lookVs, lookParts, adrOk, baseAt, baseOf, loadAt, partA, binA, unA, resOf, mkRes, envOf, List.range, List.range.loop, evalBuiltin, liveW, cfLive, cfOut, cfRes, regOf, startE, optN, mapGet, mapPut, orZero, keyOk, cellOk, hl, hv, h1, h2, h0]

/-- The index of 'x', or -1. -/
def idx (l : List Int) (x : Int) : Int := match l.findIdx? (fun y => decide (y = x)) with
  | some k => k
  | none => -1

set_option maxRecDepth 100000 in
set_option maxHeartbeats 4000000 in
theorem c30 {σ : St} {base : Nat} {a : AV} {l : List Int} (hs : Sl σ 1 a (ints l)) {x : Int} (hlen : l.length < 2^62) :
    callL Try.prog cfW 30 [a, .int .i64 x] σ base = some (.int .i64 (idx l x), σ) := by
  have hl := hs.len
  have hv := hs.v
  have he := hs.el
  have key : ∀ n (i : Nat), i + n = l.length → loopM Try.prog cfW 30 σ.length (loopOf Try.f30 2) (envOf 19 [(0, a), (1, .int .i64 x), (5, .int .i64 i)], σ) =
     match (l.drop i).findIdx? (fun y => decide (y = x)) with
     | some k => some (.ret, envOf 19 [(4, .int .i64 (i + k : Nat))], σ)
     | none => some (.exit 0, envOf 19 [], σ) := by
    intro n
    induction n with
    | zero =>
      intro i hi
      have hi' : ¬ ((i : Int) < (ints l).length) := by simp [ints]; omega
      have hd : l.drop i = [] := List.drop_eq_nil_of_le (by omega)
      rw [loopM_step (by rfl), hd]
      simp only [loopOf, findLoop, regOf, Option.getD, envOf, List.range, List.range.loop, go_sem, Nat.reduceBEq, Try.f30]
      simp only [go_sem, Nat.reduceBEq, Nat.reduceAdd, Nat.reduceSub, Nat.reduceEqDiff, Nat.reduceLeDiff, Nat.reduceMul, rgT, regionT, cfVars, cfKeep, allocs, isv?, stepO, okDst, wantedA, evalOp, evalV, evalS, storeAt, look, ofV, ofC, putA, clearA, lookV, lookVs, lookParts, adrOk, baseAt, baseOf, loadAt, partA, binA, unA, resOf, mkRes, envOf, List.range, List.range.loop, evalBuiltin, liveW, cfLive, cfOut, cfRes, regOf, startE, optN, mapGet, mapPut, orZero, keyOk, cellOk, hl, hv, hi', List.findIdx?_nil]
    | succ n ih =>
      intro i hi
      have hlt : i < l.length := by omega
      obtain ⟨i1, i2⟩ := in_rangeN hlt
      have hd := drop_getD hlt
      have hw : IntKind.i64.wrap ((i : Int) + 1) = ((i + 1 : Nat) : Int) := by rw [wrap_i64] <;> omega
      have ih' := ih (i + 1) (by omega)
      rw [loopM_step (by rfl), hd]
      simp only [loopOf, findLoop, regOf, Option.getD, envOf, List.range, List.range.loop, go_sem, Nat.reduceBEq, Try.f30] at ih' ⊢
      generalize l.getD i 0 = y at *
      by_cases hq : y = x
      · simp only [go_sem, Nat.reduceBEq, Nat.reduceAdd, Nat.reduceSub, Nat.reduceEqDiff, Nat.reduceLeDiff, Nat.reduceMul, rgT, regionT, cfVars, cfKeep, allocs, isv?, stepO, okDst, wantedA, evalOp, evalV, evalS, storeAt, look, ofV, ofC, putA, clearA, lookV, lookVs, lookParts, adrOk, baseAt, baseOf, loadAt, partA, binA, unA, resOf, mkRes, envOf, List.range, List.range.loop, evalBuiltin, liveW, cfLive, cfOut, cfRes, regOf, startE, optN, mapGet, mapPut, orZero, keyOk, cellOk, hl, hv, he, i1, i2, hq, List.findIdx?_cons, Nat.add_zero]
      · simp only [go_sem, Nat.reduceBEq, Nat.reduceAdd, Nat.reduceSub, Nat.reduceEqDiff, Nat.reduceLeDiff, Nat.reduceMul, rgT, regionT, cfVars, cfKeep, allocs, isv?, stepO, okDst, wantedA, evalOp, evalV, evalS, storeAt, look, ofV, ofC, putA, clearA, lookV, lookVs, lookParts, adrOk, baseAt, baseOf, loadAt, partA, binA, unA, resOf, mkRes, envOf, List.range, List.range.loop, evalBuiltin, liveW, cfLive, cfOut, cfRes, regOf, startE, optN, mapGet, mapPut, orZero, keyOk, cellOk, hl, hv, he, i1, i2, hq, hw, List.findIdx?_cons, ih']
        cases (l.drop (i + 1)).findIdx? (fun y => decide (y = x)) with
        | none => rfl
        | some k => simp only [Option.map_some]; rw [show i + 1 + k = i + (k + 1) from by omega]
  have key0 := key l.length 0 (by omega)
  rw [show ((0 : Nat) : Int) = 0 from rfl] at key0
  refine callL_pure (σ' := σ) (v := .int .i64 (idx l x)) Try.func30 rfl (by kernel_rfl) rfl rfl (by simp) ?_ rfl
  unfold bodyT idx
  simp only [loopOf, findLoop, regOf, Option.getD, envOf, List.range, List.range.loop, go_sem, Nat.reduceBEq, Try.f30, Nat.zero_add] at key0
  simp only [Try.f30, go_sem, Nat.reduceBEq, Nat.reduceAdd, Nat.reduceSub, Nat.reduceEqDiff, Nat.reduceLeDiff, Nat.reduceMul, rgT, regionT, cfVars, cfKeep, allocs, isv?, stepO, okDst, wantedA, evalOp, evalV, evalS, storeAt, look, ofV, ofC, putA, clearA, lookV, lookVs, lookParts, adrOk, baseAt, baseOf, loadAt, partA, binA, unA, resOf, mkRes, envOf, List.range, List.range.loop, evalBuiltin, liveW, cfLive, cfOut, cfRes, regOf, startE, optN, mapGet, mapPut, orZero, keyOk, cellOk, hv]
  simp only [key0]
  cases l.findIdx? (fun y => decide (y = x)) with
  | none => simp only [go_sem, Nat.reduceBEq, Nat.reduceAdd, Nat.reduceSub, Nat.reduceEqDiff, Nat.reduceLeDiff, Nat.reduceMul, rgT, regionT, cfVars, cfKeep, allocs, isv?, stepO, okDst, wantedA, evalOp, evalV, evalS, storeAt, look, ofV, ofC, putA, clearA, lookV, lookVs, lookParts, adrOk, baseAt, baseOf, loadAt, partA, binA, unA, resOf, mkRes, envOf, List.range, List.range.loop, evalBuiltin, liveW, cfLive, cfOut, cfRes, regOf, startE, optN, mapGet, mapPut, orZero, keyOk, cellOk]
  | some k => simp only [go_sem, Nat.reduceBEq, Nat.reduceAdd, Nat.reduceSub, Nat.reduceEqDiff, Nat.reduceLeDiff, Nat.reduceMul, rgT, regionT, cfVars, cfKeep, allocs, isv?, stepO, okDst, wantedA, evalOp, evalV, evalS, storeAt, look, ofV, ofC, putA, clearA, lookV, lookVs, lookParts, adrOk, baseAt, baseOf, loadAt, partA, binA, unA, resOf, mkRes, envOf, List.range, List.range.loop, evalBuiltin, liveW, cfLive, cfOut, cfRes, regOf, startE, optN, mapGet, mapPut, orZero, keyOk, cellOk]

end Go.Can
