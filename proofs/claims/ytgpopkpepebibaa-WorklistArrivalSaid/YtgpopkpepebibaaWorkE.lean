/- Contracts: the reference's Check. -/
import Derived.Test.YtgpopkpepebibaaWorkD
set_option linter.unusedSimpArgs false
set_option linter.unusedVariables false
namespace Go.Can
open Go Go.Proofs

def envS (n : Nat) (l : List (Nat × Slot)) : Env := (List.range n).map fun i => match l.lookup i with
  | some s => s
  | none => .top

/-- What is wrong with the items behind these. -/
def chkL (rank : List Int) (pre : List Int) : List Int → Int
  | [] => 0
  | x :: xs => if fitB rank x = true then
      if x ∈ pre then 7
      else if (rank.length : Int) > 0 ∧ (pre.length : Int) > 0 ∧ bef rank x (pre.getD (pre.length - 1) 0) = true then 13
      else chkL rank (pre ++ [x]) xs
    else 4

def chkQ (rank items : List Int) : Int := if (rank.length : Int) > 8192 ∨ (items.length : Int) > 8192 then 3 else chkL rank [] items

theorem fit_range {rank : List Int} {x : Int} (h : fitB rank x = true) (h0 : (rank.length : Int) > 0) : 0 ≤ x ∧ x < rank.length := by
  unfold fitB at h
  rw [if_pos h0] at h
  simpa using h

set_option maxRecDepth 100000 in
set_option maxHeartbeats 4000000 in
theorem c18_loop {σ : St} {base : Nat} {r it : AV} {rank items : List Int} (hr : Sl σ 1 r (ints rank)) (hi : Sl σ 1 it (ints items)) (hn : NL it) (hlen : items.length < 2^62) :
    ∀ (rest pre : List Int), items = pre ++ rest → (∀ y ∈ pre, fitB rank y = true) →
      loopM Try.prog cfW 18 base (loopOf Try.f18 4) (envS 62 [(1, .var [r, it]), (3, .val (.int .i64 pre.length))], σ) =
        if chkL rank pre rest = 0 then some (.exit 0, envS 62 [], σ) else some (.ret, envS 62 [(2, .val (.int .i64 (chkL rank pre rest)))], σ) := by
  have rl := hr.len
  have rv := hr.v
  have re := hr.el
  have il := hi.len
  have iv := hi.v
  have ie := hi.el
  rw [ints_len] at rl il
  intro rest
  induction rest with
  | nil =>
    intro pre he hf
    have hlt : ¬ ((pre.length : Int) < items.length) := by rw [he]; simp
    rw [loopM_step (by rfl)]
    simp only [chkL, envS, loopOf, findLoop, regOf, Option.getD, envOf, List.range, List.range.loop, go_sem, Nat.reduceBEq, Try.f18]
    simp only [go_sem, Nat.reduceBEq, Nat.reduceAdd, Nat.reduceSub, Nat.reduceEqDiff, Nat.reduceLeDiff, Nat.reduceMul, rgT, regionT, cfVars, cfKeep, allocs, isv?, stepO, okDst, wantedA, evalOp, evalV, evalS, storeAt, look, ofV, ofC, putA, clearA, lookV, lookVs, lookParts, adrOk, baseAt, baseOf, loadAt, partA, binA, unA, resOf, mkRes, envOf, List.range, List.range.loop, evalBuiltin, liveW, cfLive, cfOut, cfRes, regOf, startE, optN, mapGet, mapPut, orZero, keyOk, cellOk, il, iv, hlt]
  | cons x rest ih =>
    intro pre he hf
    have hlt : ((pre.length : Int) < items.length) = True := by rw [he]; simp; omega
    have hget : (ints items)[pre.length]? = some (.int .i64 x) := by rw [he]; simp [ints]
    have hw : IntKind.i64.wrap ((pre.length : Int) + 1) = (((pre ++ [x]).length : Nat) : Int) := by
      have : pre.length < items.length := by rw [he]; simp
      rw [wrap_i64] <;> simp <;> omega
    rw [loopM_step (by rfl)]
    have ih' := ih (pre ++ [x]) (by rw [he]; simp)
    have hfit := c29 (base := base) hr (x := x)
    simp only [chkL, envS, loopOf, findLoop, regOf, Option.getD, envOf, List.range, List.range.loop, go_sem, Nat.reduceBEq, Try.f18] at ih' ⊢
    by_cases h1 : fitB rank x = true
    · obtain ⟨v, v1, v2, v3⟩ := hi.slice hn (l := 0) (k := pre.length) (lo := none) (hi := some (pre.length : Int)) (by omega) (by rw [ints_len, he]; simp) rfl rfl
      have v2' : Sl σ 1 v (ints pre) := by
        have : ((ints items).drop 0).take (pre.length - 0) = ints pre := by rw [he]; simp [ints]
        rwa [this] at v2
      have hat := c30 (base := base) v2' (x := x) (by have : pre.length ≤ items.length := by rw [he]; simp
                                                      omega)
      have vv := v2'.v
      by_cases h2 : x ∈ pre
      · simp only [go_sem, Nat.reduceBEq, Nat.reduceAdd, Nat.reduceSub, Nat.reduceEqDiff, Nat.reduceLeDiff, Nat.reduceMul, rgT, regionT, cfVars, cfKeep, allocs, isv?, stepO, okDst, wantedA, evalOp, evalV, evalS, storeAt, look, ofV, ofC, putA, clearA, lookV, lookVs, lookParts, adrOk, baseAt, baseOf, loadAt, partA, binA, unA, resOf, mkRes, envOf, List.range, List.range.loop, evalBuiltin, liveW, cfLive, cfOut, cfRes, regOf, startE, optN, mapGet, mapPut, orZero, keyOk, cellOk, rl, rv, re, il, iv, ie, hlt, hget, hfit, h1, v1, hat, vv, idx_mem, h2, Int.reduceEq]
      · have hne : ¬ (4 : Int) = 0 := by decide
        by_cases h3 : (rank.length : Int) > 0
        · by_cases h4 : (pre.length : Int) > 0
          · obtain ⟨y, hy, hyl⟩ : ∃ y, pre.getD (pre.length - 1) 0 = y ∧ y ∈ pre := by
              refine ⟨_, rfl, ?_⟩
              have : pre.length - 1 < pre.length := by omega
              simp [this]
            have hgl : (ints items)[pre.length - 1]? = some (.int .i64 y) := by
              rw [← hy, he]
              have : pre.length - 1 < pre.length := by omega
              simp [ints, List.getElem?_append, this]
            have hws : IntKind.i64.wrap ((pre.length : Int) - 1) = ((pre.length - 1 : Nat) : Int) := by
              have : pre.length < items.length := by rw [he]; simp
              rw [wrap_i64] <;> omega
            have hlt2 : (((pre.length - 1 : Nat) : Int) < items.length) = True := by rw [he]; simp; omega
            have hbef := c24 (base := base) hr (fit_range h1 h3) (fit_range (hf y hyl) h3)
            rw [hy]
            by_cases h5 : bef rank x y = true
            · simp only [go_sem, Nat.reduceBEq, Nat.reduceAdd, Nat.reduceSub, Nat.reduceEqDiff, Nat.reduceLeDiff, Nat.reduceMul, rgT, regionT, cfVars, cfKeep, allocs, isv?, stepO, okDst, wantedA, evalOp, evalV, evalS, storeAt, look, ofV, ofC, putA, clearA, lookV, lookVs, lookParts, adrOk, baseAt, baseOf, loadAt, partA, binA, unA, resOf, mkRes, envOf, List.range, List.range.loop, evalBuiltin, liveW, cfLive, cfOut, cfRes, regOf, startE, optN, mapGet, mapPut, orZero, keyOk, cellOk, rl, rv, re, il, iv, ie, hlt, hget, hfit, h1, v1, hat, vv, idx_mem, h2, h3, h4, hgl, hws, hlt2, hbef, h5, Int.reduceEq]
            · have h5' : bef rank x y = false := by simpa using h5
              simp only [go_sem, Nat.reduceBEq, Nat.reduceAdd, Nat.reduceSub, Nat.reduceEqDiff, Nat.reduceLeDiff, Nat.reduceMul, rgT, regionT, cfVars, cfKeep, allocs, isv?, stepO, okDst, wantedA, evalOp, evalV, evalS, storeAt, look, ofV, ofC, putA, clearA, lookV, lookVs, lookParts, adrOk, baseAt, baseOf, loadAt, partA, binA, unA, resOf, mkRes, envOf, List.range, List.range.loop, evalBuiltin, liveW, cfLive, cfOut, cfRes, regOf, startE, optN, mapGet, mapPut, orZero, keyOk, cellOk, rl, rv, re, il, iv, ie, hlt, hget, hfit, h1, v1, hat, vv, idx_mem, h2, h3, h4, hgl, hws, hlt2, hbef, h5', hw, and_false, ih' (fun z hz => by
                rcases List.mem_append.1 hz with h | h
                · exact hf z h
                · simp at h; rw [h]; exact h1)]
          · simp only [go_sem, Nat.reduceBEq, Nat.reduceAdd, Nat.reduceSub, Nat.reduceEqDiff, Nat.reduceLeDiff, Nat.reduceMul, rgT, regionT, cfVars, cfKeep, allocs, isv?, stepO, okDst, wantedA, evalOp, evalV, evalS, storeAt, look, ofV, ofC, putA, clearA, lookV, lookVs, lookParts, adrOk, baseAt, baseOf, loadAt, partA, binA, unA, resOf, mkRes, envOf, List.range, List.range.loop, evalBuiltin, liveW, cfLive, cfOut, cfRes, regOf, startE, optN, mapGet, mapPut, orZero, keyOk, cellOk, rl, rv, re, il, iv, ie, hlt, hget, hfit, h1, v1, hat, vv, idx_mem, h2, h3, h4, hw, and_false, false_and, ih' (fun z hz => by
                rcases List.mem_append.1 hz with h | h
                · exact hf z h
                · simp at h; rw [h]; exact h1)]
        · simp only [go_sem, Nat.reduceBEq, Nat.reduceAdd, Nat.reduceSub, Nat.reduceEqDiff, Nat.reduceLeDiff, Nat.reduceMul, rgT, regionT, cfVars, cfKeep, allocs, isv?, stepO, okDst, wantedA, evalOp, evalV, evalS, storeAt, look, ofV, ofC, putA, clearA, lookV, lookVs, lookParts, adrOk, baseAt, baseOf, loadAt, partA, binA, unA, resOf, mkRes, envOf, List.range, List.range.loop, evalBuiltin, liveW, cfLive, cfOut, cfRes, regOf, startE, optN, mapGet, mapPut, orZero, keyOk, cellOk, rl, rv, re, il, iv, ie, hlt, hget, hfit, h1, v1, hat, vv, idx_mem, h2, h3, hw, and_false, false_and, ih' (fun z hz => by
                rcases List.mem_append.1 hz with h | h
                · exact hf z h
                · simp at h; rw [h]; exact h1)]
    · have h1' : fitB rank x = false := by simpa using h1
      simp only [go_sem, Nat.reduceBEq, Nat.reduceAdd, Nat.reduceSub, Nat.reduceEqDiff, Nat.reduceLeDiff, Nat.reduceMul, rgT, regionT, cfVars, cfKeep, allocs, isv?, stepO, okDst, wantedA, evalOp, evalV, evalS, storeAt, look, ofV, ofC, putA, clearA, lookV, lookVs, lookParts, adrOk, baseAt, baseOf, loadAt, partA, binA, unA, resOf, mkRes, envOf, List.range, List.range.loop, evalBuiltin, liveW, cfLive, cfOut, cfRes, regOf, startE, optN, mapGet, mapPut, orZero, keyOk, cellOk, rl, rv, re, il, iv, ie, hlt, hget, hfit, h1', Int.reduceEq]

set_option maxRecDepth 100000 in
set_option maxHeartbeats 4000000 in
theorem c18 {σ : St} {base : Nat} {r it : AV} {rank items : List Int} (hr : Sl σ 1 r (ints rank)) (hi : Sl σ 1 it (ints items)) (hn : NL it) (hlen : items.length < 2^62) :
    callL Try.prog cfW 18 [.agg [r, it]] σ base = some (.int .i64 (chkQ rank items), σ) := by
  have rl := hr.len
  have rv := hr.v
  have il := hi.len
  have iv := hi.v
  rw [ints_len] at rl il
  refine callL_pure (σ' := σ) (v := .int .i64 (chkQ rank items)) Try.func18 rfl (by kernel_rfl) rfl rfl (by simp) ?_ rfl
  unfold bodyT chkQ
  have key := c18_loop (base := σ.length) hr hi hn hlen items [] rfl (by simp)
  simp only [envS, loopOf, findLoop, regOf, Option.getD, envOf, List.range, List.range.loop, go_sem, Nat.reduceBEq, Try.f18] at key
  by_cases h1 : (rank.length : Int) > 8192
  · simp only [Try.f18, go_sem, Nat.reduceBEq, Nat.reduceAdd, Nat.reduceSub, Nat.reduceEqDiff, Nat.reduceLeDiff, Nat.reduceMul, rgT, regionT, cfVars, cfKeep, allocs, isv?, stepO, okDst, wantedA, evalOp, evalV, evalS, storeAt, look, ofV, ofC, putA, clearA, lookV, lookVs, lookParts, adrOk, baseAt, baseOf, loadAt, partA, binA, unA, resOf, mkRes, envOf, List.range, List.range.loop, evalBuiltin, liveW, cfLive, cfOut, cfRes, regOf, startE, optN, mapGet, mapPut, orZero, keyOk, cellOk, rl, rv, il, iv, h1, true_or]
  · by_cases h2 : (items.length : Int) > 8192
    · simp only [Try.f18, go_sem, Nat.reduceBEq, Nat.reduceAdd, Nat.reduceSub, Nat.reduceEqDiff, Nat.reduceLeDiff, Nat.reduceMul, rgT, regionT, cfVars, cfKeep, allocs, isv?, stepO, okDst, wantedA, evalOp, evalV, evalS, storeAt, look, ofV, ofC, putA, clearA, lookV, lookVs, lookParts, adrOk, baseAt, baseOf, loadAt, partA, binA, unA, resOf, mkRes, envOf, List.range, List.range.loop, evalBuiltin, liveW, cfLive, cfOut, cfRes, regOf, startE, optN, mapGet, mapPut, orZero, keyOk, cellOk, rl, rv, il, iv, h1, h2, or_true]
    · simp only [Try.f18, go_sem, Nat.reduceBEq, Nat.reduceAdd, Nat.reduceSub, Nat.reduceEqDiff, Nat.reduceLeDiff, Nat.reduceMul, rgT, regionT, cfVars, cfKeep, allocs, isv?, stepO, okDst, wantedA, evalOp, evalV, evalS, storeAt, look, ofV, ofC, putA, clearA, lookV, lookVs, lookParts, adrOk, baseAt, baseOf, loadAt, partA, binA, unA, resOf, mkRes, envOf, List.range, List.range.loop, evalBuiltin, liveW, cfLive, cfOut, cfRes, regOf, startE, optN, mapGet, mapPut, orZero, keyOk, cellOk, rl, rv, il, iv, h1, h2, or_false]
      try rw [show ((0 : Nat) : Int) = 0 from rfl] at key
      simp only [key]
      by_cases h3 : chkL rank [] items = 0
      · simp only [go_sem, Nat.reduceBEq, Nat.reduceAdd, Nat.reduceSub, Nat.reduceEqDiff, Nat.reduceLeDiff, Nat.reduceMul, rgT, regionT, cfVars, cfKeep, allocs, isv?, stepO, okDst, wantedA, evalOp, evalV, evalS, storeAt, look, ofV, ofC, putA, clearA, lookV, lookVs, lookParts, adrOk, baseAt, baseOf, loadAt, partA, binA, unA, resOf, mkRes, envOf, List.range, List.range.loop, evalBuiltin, liveW, cfLive, cfOut, cfRes, regOf, startE, optN, mapGet, mapPut, orZero, keyOk, cellOk, h3]
      · simp only [go_sem, Nat.reduceBEq, Nat.reduceAdd, Nat.reduceSub, Nat.reduceEqDiff, Nat.reduceLeDiff, Nat.reduceMul, rgT, regionT, cfVars, cfKeep, allocs, isv?, stepO, okDst, wantedA, evalOp, evalV, evalS, storeAt, look, ofV, ofC, putA, clearA, lookV, lookVs, lookParts, adrOk, baseAt, baseOf, loadAt, partA, binA, unA, resOf, mkRes, envOf, List.range, List.range.loop, evalBuiltin, liveW, cfLive, cfOut, cfRes, regOf, startE, optN, mapGet, mapPut, orZero, keyOk, cellOk, h3]

end Go.Can
