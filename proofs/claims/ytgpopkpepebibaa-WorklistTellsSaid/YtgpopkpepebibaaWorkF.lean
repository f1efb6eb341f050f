/- Contracts: the program's Check. -/
import Derived.Test.YtgpopkpepebibaaWorkE
set_option linter.unusedSimpArgs false
set_option linter.unusedVariables false
namespace Go.Can
open Go Go.Proofs

def seen (pre : List Int) : List (AV × AV) := pre.map fun y => (.int .i64 y, .bool true)

theorem findE_seen {x : Int} : ∀ {pre : List Int} {i : Nat}, (findE (.int .i64 x) (seen pre) i = some none ∧ ¬ x ∈ pre) ∨ (∃ j, findE (.int .i64 x) (seen pre) i = some (some (j, .bool true)) ∧ x ∈ pre)
  | [], i => .inl ⟨rfl, by simp⟩
  | y :: pre, i => by
    by_cases h : x = y
    · subst h
      exact .inr ⟨i, by simp [seen, findE, keyEq, cellEq], by simp⟩
    · have hk : findE (.int .i64 x) (seen (y :: pre)) i = findE (.int .i64 x) (seen pre) (i + 1) := by
        have hb : (x == y) = false := by simp [h]
        simp [seen, findE, keyEq, cellEq, hb]
      rw [hk]
      rcases findE_seen (x := x) (pre := pre) (i := i + 1) with ⟨h1, h2⟩ | ⟨j, h1, h2⟩
      · exact .inl ⟨h1, by simp [h, h2]⟩
      · exact .inr ⟨j, h1, by simp [h2]⟩

set_option maxRecDepth 100000 in
set_option maxHeartbeats 4000000 in
theorem c16_loop {σ : St} {r it : AV} {rank items : List Int} (hr : Sl σ 1 r (ints rank)) (hi : Sl σ 1 it (ints items)) (hr' : ∀ l, Sl (σ ++ l) 1 r (ints rank)) (hi' : ∀ l, Sl (σ ++ l) 1 it (ints items)) (hlen : items.length < 2^62) :
    ∀ (rest pre : List Int), items = pre ++ rest → (∀ y ∈ pre, fitB rank y = true) →
      ∃ es, loopM Try.prog cfW 16 σ.length (loopOf Try.f16 5) (envS 61 [(1, .var [r, it]), (3, .val (.map (some σ.length))), (21, .val it), (22, .val (.int .i64 items.length)), (23, .val (.int .i64 pre.length))], σ ++ [.map (seen pre)]) =
        if chkL rank pre rest = 0 then some (.exit 0, envS 61 [], σ ++ [.map es]) else some (.ret, envS 61 [(2, .val (.int .i64 (chkL rank pre rest)))], σ ++ [.map es]) := by
  have rl := hr.len
  have rv := hr.v
  have rc := hr.cells
  have ic := hi.cells
  have il := hi.len
  have iv := hi.v
  have ie := fun l => (hi' l).el
  rw [ints_len] at rl il
  intro rest
  induction rest with
  | nil =>
    intro pre he hf
    have hlt : ¬ ((pre.length : Int) < items.length) := by rw [he]; simp
    refine ⟨seen pre, ?_⟩
    rw [loopM_step (by rfl)]
    simp only [chkL, envS, loopOf, findLoop, regOf, Option.getD, envOf, List.range, List.range.loop, go_sem, Nat.reduceBEq, Try.f16]
    simp only [go_sem, Nat.reduceBEq, Nat.reduceAdd, Nat.reduceSub, Nat.reduceEqDiff, Nat.reduceLeDiff, Nat.reduceMul, rgT, regionT, cfVars, cfKeep, allocs, isv?, stepO, okDst, wantedA, evalOp, evalV, evalS, storeAt, look, ofV, ofC, putA, clearA, lookV, lookVs, lookParts, adrOk, baseAt, baseOf, loadAt, partA, binA, unA, resOf, mkRes, envOf, List.range, List.range.loop, evalBuiltin, liveW, cfLive, cfOut, cfRes, regOf, startE, optN, mapGet, mapPut, orZero, keyOk, cellOk, hlt]
  | cons x rest ih =>
    intro pre he hf
    have hlt : ((pre.length : Int) < items.length) = True := by rw [he]; simp; omega
    have hget : (ints items)[pre.length]? = some (.int .i64 x) := by rw [he]; simp [ints]
    have hw : IntKind.i64.wrap ((pre.length : Int) + 1) = (((pre ++ [x]).length : Nat) : Int) := by
      have : pre.length < items.length := by rw [he]; simp
      rw [wrap_i64] <;> simp <;> omega
    rw [loopM_step (by rfl)]
    have hfit := c25 (base := σ.length) (hr' [.map (seen pre)]) ic (x := x)
    by_cases h1 : fitB rank x = true
    · rcases findE_seen (x := x) (pre := pre) (i := 0) with ⟨g1, g2⟩ | ⟨j, g1, g2⟩
      · obtain ⟨es, ih'⟩ := ih (pre ++ [x]) (by rw [he]; simp) (fun z hz => by
                rcases List.mem_append.1 hz with h | h
                · exact hf z h
                · simp at h; rw [h]; exact h1)
        have hse : seen (pre ++ [x]) = seen pre ++ [(.int .i64 x, .bool true)] := by simp [seen]
        rw [hse] at ih'
        by_cases h3 : (rank.length : Int) > 0
        · by_cases h4 : (pre.length : Int) > 0
          · obtain ⟨y, hy, hyl⟩ : ∃ y, pre.getD (pre.length - 1) 0 = y ∧ y ∈ pre := by
              refine ⟨_, rfl, ?_⟩
              have : pre.length - 1 < pre.length := by omega
              simp [this]
            have hgl : (ints items)[pre.length - 1]? = some (.int .i64 y) := by
              rw [← hy, he]
              have : pre.length - 1 < pre.length := by omega
              simp [ints, List.getElem?_append, this]
            have hws : IntKind.i64.wrap ((pre.length : Int) - 1) = ((pre.length - 1 : Nat) : Int) := by
              have : pre.length < items.length := by rw [he]; simp
              rw [wrap_i64] <;> omega
            have hlt2 : (((pre.length - 1 : Nat) : Int) < items.length) = True := by rw [he]; simp; omega
            have hbef := c27 (base := σ.length) (hr' [.map (seen pre)]) (fit_range h1 h3) (fit_range (hf y hyl) h3)
            by_cases h5 : bef rank x y = true
            · refine ⟨seen pre, ?_⟩
              simp only [chkL, envS, loopOf, findLoop, regOf, Option.getD, envOf, List.range, List.range.loop, go_sem, Nat.reduceBEq, Try.f16, hy] at ih' ⊢
              simp only [go_sem, Nat.reduceBEq, Nat.reduceAdd, Nat.reduceSub, Nat.reduceEqDiff, Nat.reduceLeDiff, Nat.reduceMul, rgT, regionT, cfVars, cfKeep, allocs, isv?, stepO, okDst, wantedA, evalOp, evalV, evalS, storeAt, look, ofV, ofC, putA, clearA, lookV, lookVs, lookParts, adrOk, baseAt, baseOf, loadAt, partA, binA, unA, resOf, mkRes, envOf, List.range, List.range.loop, evalBuiltin, liveW, cfLive, cfOut, cfRes, regOf, startE, optN, mapGet, mapPut, orZero, keyOk, cellOk, rl, rv, rc, il, iv, ic, ie, hlt, hget, hfit, h1, g1, g2, h3, h4, hgl, hws, hlt2, hbef, h5, Int.reduceEq]
            · have h5' : bef rank x y = false := by simpa using h5
              refine ⟨es, ?_⟩
              simp only [chkL, envS, loopOf, findLoop, regOf, Option.getD, envOf, List.range, List.range.loop, go_sem, Nat.reduceBEq, Try.f16, hy] at ih' ⊢
              simp only [go_sem, Nat.reduceBEq, Nat.reduceAdd, Nat.reduceSub, Nat.reduceEqDiff, Nat.reduceLeDiff, Nat.reduceMul, rgT, regionT, cfVars, cfKeep, allocs, isv?, stepO, okDst, wantedA, evalOp, evalV, evalS, storeAt, look, ofV, ofC, putA, clearA, lookV, lookVs, lookParts, adrOk, baseAt, baseOf, loadAt, partA, binA, unA, resOf, mkRes, envOf, List.range, List.range.loop, evalBuiltin, liveW, cfLive, cfOut, cfRes, regOf, startE, optN, mapGet, mapPut, orZero, keyOk, cellOk, rl, rv, rc, il, iv, ic, ie, hlt, hget, hfit, h1, g1, g2, h3, h4, hgl, hws, hlt2, hbef, h5', hw, and_false, ih']
          · refine ⟨es, ?_⟩
            simp only [chkL, envS, loopOf, findLoop, regOf, Option.getD, envOf, List.range, List.range.loop, go_sem, Nat.reduceBEq, Try.f16] at ih' ⊢
            simp only [go_sem, Nat.reduceBEq, Nat.reduceAdd, Nat.reduceSub, Nat.reduceEqDiff, Nat.reduceLeDiff, Nat.reduceMul, rgT, regionT, cfVars, cfKeep, allocs, isv?, stepO, okDst, wantedA, evalOp, evalV, evalS, storeAt, look, ofV, ofC, putA, clearA, lookV, lookVs, lookParts, adrOk, baseAt, baseOf, loadAt, partA, binA, unA, resOf, mkRes, envOf, List.range, List.range.loop, evalBuiltin, liveW, cfLive, cfOut, cfRes, regOf, startE, optN, mapGet, mapPut, orZero, keyOk, cellOk, rl, rv, rc, il, iv, ic, ie, hlt, hget, hfit, h1, g1, g2, h3, h4, hw, and_false, false_and, ih']
        · refine ⟨es, ?_⟩
          simp only [chkL, envS, loopOf, findLoop, regOf, Option.getD, envOf, List.range, List.range.loop, go_sem, Nat.reduceBEq, Try.f16] at ih' ⊢
          simp only [go_sem, Nat.reduceBEq, Nat.reduceAdd, Nat.reduceSub, Nat.reduceEqDiff, Nat.reduceLeDiff, Nat.reduceMul, rgT, regionT, cfVars, cfKeep, allocs, isv?, stepO, okDst, wantedA, evalOp, evalV, evalS, storeAt, look, ofV, ofC, putA, clearA, lookV, lookVs, lookParts, adrOk, baseAt, baseOf, loadAt, partA, binA, unA, resOf, mkRes, envOf, List.range, List.range.loop, evalBuiltin, liveW, cfLive, cfOut, cfRes, regOf, startE, optN, mapGet, mapPut, orZero, keyOk, cellOk, rl, rv, rc, il, iv, ic, ie, hlt, hget, hfit, h1, g1, g2, h3, hw, and_false, false_and, ih']
      · refine ⟨seen pre, ?_⟩
        simp only [chkL, envS, loopOf, findLoop, regOf, Option.getD, envOf, List.range, List.range.loop, go_sem, Nat.reduceBEq, Try.f16]
        simp only [go_sem, Nat.reduceBEq, Nat.reduceAdd, Nat.reduceSub, Nat.reduceEqDiff, Nat.reduceLeDiff, Nat.reduceMul, rgT, regionT, cfVars, cfKeep, allocs, isv?, stepO, okDst, wantedA, evalOp, evalV, evalS, storeAt, look, ofV, ofC, putA, clearA, lookV, lookVs, lookParts, adrOk, baseAt, baseOf, loadAt, partA, binA, unA, resOf, mkRes, envOf, List.range, List.range.loop, evalBuiltin, liveW, cfLive, cfOut, cfRes, regOf, startE, optN, mapGet, mapPut, orZero, keyOk, cellOk, rl, rv, rc, il, iv, ic, ie, hlt, hget, hfit, h1, g1, g2, Int.reduceEq]
    · have h1' : fitB rank x = false := by simpa using h1
      refine ⟨seen pre, ?_⟩
      simp only [chkL, envS, loopOf, findLoop, regOf, Option.getD, envOf, List.range, List.range.loop, go_sem, Nat.reduceBEq, Try.f16]
      simp only [go_sem, Nat.reduceBEq, Nat.reduceAdd, Nat.reduceSub, Nat.reduceEqDiff, Nat.reduceLeDiff, Nat.reduceMul, rgT, regionT, cfVars, cfKeep, allocs, isv?, stepO, okDst, wantedA, evalOp, evalV, evalS, storeAt, look, ofV, ofC, putA, clearA, lookV, lookVs, lookParts, adrOk, baseAt, baseOf, loadAt, partA, binA, unA, resOf, mkRes, envOf, List.range, List.range.loop, evalBuiltin, liveW, cfLive, cfOut, cfRes, regOf, startE, optN, mapGet, mapPut, orZero, keyOk, cellOk, rl, rv, rc, il, iv, ic, ie, hlt, hget, hfit, h1', Int.reduceEq]

set_option maxRecDepth 100000 in
set_option maxHeartbeats 4000000 in
theorem c16 {σ : St} {base : Nat} {r it : AV} {rank items : List Int} (hr : Sl σ 1 r (ints rank)) (hi : Sl σ 1 it (ints items)) (hr' : ∀ l, Sl (σ ++ l) 1 r (ints rank)) (hi' : ∀ l, Sl (σ ++ l) 1 it (ints items)) (hlen : items.length < 2^62) :
    callL Try.prog cfW 16 [.agg [r, it]] σ base = some (.int .i64 (chkQ rank items), σ) := by
  have rl := hr.len
  have rv := hr.v
  have rc := hr.cells
  have ic := hi.cells
  have il := hi.len
  have iv := hi.v
  rw [ints_len] at rl il
  obtain ⟨es, key⟩ := c16_loop hr hi hr' hi' hlen items [] rfl (by simp)
  have main : ∃ σ', bodyT Try.prog cfW 16 Try.f16 (Try.f16.body.getD .skip) [.agg [r, it]] σ σ.length = some (.int .i64 (chkQ rank items), σ') := by
    unfold bodyT chkQ
    simp only [envS, loopOf, findLoop, regOf, Option.getD, envOf, List.range, List.range.loop, go_sem, Nat.reduceBEq, Try.f16, seen] at key
    by_cases h1 : (rank.length : Int) > 8192
    · refine ⟨σ, ?_⟩
      simp only [Try.f16, go_sem, Nat.reduceBEq, Nat.reduceAdd, Nat.reduceSub, Nat.reduceEqDiff, Nat.reduceLeDiff, Nat.reduceMul, rgT, regionT, cfVars, cfKeep, allocs, isv?, stepO, okDst, wantedA, evalOp, evalV, evalS, storeAt, look, ofV, ofC, putA, clearA, lookV, lookVs, lookParts, adrOk, baseAt, baseOf, loadAt, partA, binA, unA, resOf, mkRes, envOf, List.range, List.range.loop, evalBuiltin, liveW, cfLive, cfOut, cfRes, regOf, startE, optN, mapGet, mapPut, orZero, keyOk, cellOk, rl, rv, rc, ic, il, iv, h1, true_or]
    · by_cases h2 : (items.length : Int) > 8192
      · refine ⟨σ, ?_⟩
        simp only [Try.f16, go_sem, Nat.reduceBEq, Nat.reduceAdd, Nat.reduceSub, Nat.reduceEqDiff, Nat.reduceLeDiff, Nat.reduceMul, rgT, regionT, cfVars, cfKeep, allocs, isv?, stepO, okDst, wantedA, evalOp, evalV, evalS, storeAt, look, ofV, ofC, putA, clearA, lookV, lookVs, lookParts, adrOk, baseAt, baseOf, loadAt, partA, binA, unA, resOf, mkRes, envOf, List.range, List.range.loop, evalBuiltin, liveW, cfLive, cfOut, cfRes, regOf, startE, optN, mapGet, mapPut, orZero, keyOk, cellOk, rl, rv, rc, ic, il, iv, h1, h2, or_true]
      · refine ⟨σ ++ [.map es], ?_⟩
        simp only [Try.f16, go_sem, Nat.reduceBEq, Nat.reduceAdd, Nat.reduceSub, Nat.reduceEqDiff, Nat.reduceLeDiff, Nat.reduceMul, rgT, regionT, cfVars, cfKeep, allocs, isv?, stepO, okDst, wantedA, evalOp, evalV, evalS, storeAt, look, ofV, ofC, putA, clearA, lookV, lookVs, lookParts, adrOk, baseAt, baseOf, loadAt, partA, binA, unA, resOf, mkRes, envOf, List.range, List.range.loop, evalBuiltin, liveW, cfLive, cfOut, cfRes, regOf, startE, optN, mapGet, mapPut, orZero, keyOk, cellOk, rl, rv, rc, ic, il, iv, h1, h2, or_false]
        try rw [show ((0 : Nat) : Int) = 0 from rfl] at key
        simp only [key]
        by_cases h3 : chkL rank [] items = 0
        · simp only [go_sem, Nat.reduceBEq, Nat.reduceAdd, Nat.reduceSub, Nat.reduceEqDiff, Nat.reduceLeDiff, Nat.reduceMul, rgT, regionT, cfVars, cfKeep, allocs, isv?, stepO, okDst, wantedA, evalOp, evalV, evalS, storeAt, look, ofV, ofC, putA, clearA, lookV, lookVs, lookParts, adrOk, baseAt, baseOf, loadAt, partA, binA, unA, resOf, mkRes, envOf, List.range, List.range.loop, evalBuiltin, liveW, cfLive, cfOut, cfRes, regOf, startE, optN, mapGet, mapPut, orZero, keyOk, cellOk, h3]
        · simp only [go_sem, Nat.reduceBEq, Nat.reduceAdd, Nat.reduceSub, Nat.reduceEqDiff, Nat.reduceLeDiff, Nat.reduceMul, rgT, regionT, cfVars, cfKeep, allocs, isv?, stepO, okDst, wantedA, evalOp, evalV, evalS, storeAt, look, ofV, ofC, putA, clearA, lookV, lookVs, lookParts, adrOk, baseAt, baseOf, loadAt, partA, binA, unA, resOf, mkRes, envOf, List.range, List.range.loop, evalBuiltin, liveW, cfLive, cfOut, cfRes, regOf, startE, optN, mapGet, mapPut, orZero, keyOk, cellOk, h3]
  obtain ⟨σ', h⟩ := main
  exact callL_pure (σ' := σ') (v := .int .i64 (chkQ rank items)) Try.func16 rfl (by kernel_rfl) rfl rfl (by simp) h rfl

end Go.Can
