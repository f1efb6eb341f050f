/- Contracts: the library's Index and Contains; the reference's Equal and Same. -/
import Derived.Test.YtgpopkpepebibaaWorkC
set_option linter.unusedSimpArgs false
set_option linter.unusedVariables false
namespace Go.Can
open Go Go.Proofs

set_option maxRecDepth 100000 in
set_option maxHeartbeats 4000000 in
theorem c31 {σ : St} {base : Nat} {a : AV} {l : List Int} (hs : Sl σ 1 a (ints l)) {x : Int} (hlen : l.length < 2^62) :
    callL Try.prog cfW 31 [a, .int .i64 x] σ base = some (.int .i64 (idx l x), σ) := by
  have hl := hs.len
  have hv := hs.v
  have he := hs.el
  rw [ints_len] at hl
  have key : ∀ n (i : Nat), i + n = l.length → loopM Try.prog cfW 31 σ.length (loopOf Try.f31 2) (envOf 19 [(0, a), (1, .int .i64 x), (7, .int .i64 l.length), (8, .int .i64 i)], σ) =
     match (l.drop i).findIdx? (fun y => decide (y = x)) with
     | some k => some (.ret, envOf 19 [(4, .int .i64 (i + k : Nat))], σ)
     | none => some (.exit 0, envOf 19 [], σ) := by
    intro n
    induction n with
    | zero =>
      intro i hi
      have hi' : ¬ ((i : Int) < l.length) := by omega
      have hd : l.drop i = [] := List.drop_eq_nil_of_le (by omega)
      rw [loopM_step (by rfl), hd]
      simp only [loopOf, findLoop, regOf, Option.getD, envOf, List.range, List.range.loop, go_sem, Nat.reduceBEq, Try.f31]
      simp only [go_sem, Nat.reduceBEq, Nat.reduceAdd, Nat.reduceSub, Nat.reduceEqDiff, Nat.reduceLeDiff, Nat.reduceMul, rgT, regionT, cfVars, cfKeep, allocs, isv?, stepO, okDst, wantedA, evalOp, evalV, evalS, storeAt, look, ofV, ofC, putA, clearA, lookV, lookVs, lookParts, adrOk, baseAt, baseOf, loadAt, partA, binA, unA, resOf, mkRes, envOf, List.range, List.range.loop, evalBuiltin, liveW, cfLive, cfOut, cfRes, regOf, startE, optN, mapGet, mapPut, orZero, keyOk, cellOk, hl, hv, hi', List.findIdx?_nil]
    | succ n ih =>
      intro i hi
      have hlt : i < l.length := by omega
      obtain ⟨i1, i2⟩ := in_rangeN hlt
      rw [ints_len] at i1
      have hd := drop_getD hlt
      have hw : IntKind.i64.wrap ((i : Int) + 1) = ((i + 1 : Nat) : Int) := by rw [wrap_i64] <;> omega
      have ih' := ih (i + 1) (by omega)
      rw [loopM_step (by rfl), hd]
      simp only [loopOf, findLoop, regOf, Option.getD, envOf, List.range, List.range.loop, go_sem, Nat.reduceBEq, Try.f31] at ih' ⊢
      generalize l.getD i 0 = y at *
      by_cases hq : y = x
      · subst hq
        simp only [go_sem, Nat.reduceBEq, Nat.reduceAdd, Nat.reduceSub, Nat.reduceEqDiff, Nat.reduceLeDiff, Nat.reduceMul, rgT, regionT, cfVars, cfKeep, allocs, isv?, stepO, okDst, wantedA, evalOp, evalV, evalS, storeAt, look, ofV, ofC, putA, clearA, lookV, lookVs, lookParts, adrOk, baseAt, baseOf, loadAt, partA, binA, unA, resOf, mkRes, envOf, List.range, List.range.loop, evalBuiltin, liveW, cfLive, cfOut, cfRes, regOf, startE, optN, mapGet, mapPut, orZero, keyOk, cellOk, hl, hv, he, i1, i2, List.findIdx?_cons, Nat.add_zero]
      · have hq' : ¬ x = y := fun e => hq e.symm
        simp only [go_sem, Nat.reduceBEq, Nat.reduceAdd, Nat.reduceSub, Nat.reduceEqDiff, Nat.reduceLeDiff, Nat.reduceMul, rgT, regionT, cfVars, cfKeep, allocs, isv?, stepO, okDst, wantedA, evalOp, evalV, evalS, storeAt, look, ofV, ofC, putA, clearA, lookV, lookVs, lookParts, adrOk, baseAt, baseOf, loadAt, partA, binA, unA, resOf, mkRes, envOf, List.range, List.range.loop, evalBuiltin, liveW, cfLive, cfOut, cfRes, regOf, startE, optN, mapGet, mapPut, orZero, keyOk, cellOk, hl, hv, he, i1, i2, hq, hq', hw, List.findIdx?_cons, ih']
        cases (l.drop (i + 1)).findIdx? (fun y => decide (y = x)) with
        | none => rfl
        | some k => simp only [Option.map_some]; rw [show i + 1 + k = i + (k + 1) from by omega]
  have key0 := key l.length 0 (by omega)
  rw [show ((0 : Nat) : Int) = 0 from rfl] at key0
  refine callL_pure (σ' := σ) (v := .int .i64 (idx l x)) Try.func31 rfl (by kernel_rfl) rfl rfl (by simp) ?_ rfl
  unfold bodyT idx
  simp only [loopOf, findLoop, regOf, Option.getD, envOf, List.range, List.range.loop, go_sem, Nat.reduceBEq, Try.f31, Nat.zero_add] at key0
  simp only [Try.f31, go_sem, Nat.reduceBEq, Nat.reduceAdd, Nat.reduceSub, Nat.reduceEqDiff, Nat.reduceLeDiff, Nat.reduceMul, rgT, regionT, cfVars, cfKeep, allocs, isv?, stepO, okDst, wantedA, evalOp, evalV, evalS, storeAt, look, ofV, ofC, putA, clearA, lookV, lookVs, lookParts, adrOk, baseAt, baseOf, loadAt, partA, binA, unA, resOf, mkRes, envOf, List.range, List.range.loop, evalBuiltin, liveW, cfLive, cfOut, cfRes, regOf, startE, optN, mapGet, mapPut, orZero, keyOk, cellOk, hv, hl]
  simp only [key0]
  cases l.findIdx? (fun y => decide (y = x)) with
  | none => simp only [go_sem, Nat.reduceBEq, Nat.reduceAdd, Nat.reduceSub, Nat.reduceEqDiff, Nat.reduceLeDiff, Nat.reduceMul, rgT, regionT, cfVars, cfKeep, allocs, isv?, stepO, okDst, wantedA, evalOp, evalV, evalS, storeAt, look, ofV, ofC, putA, clearA, lookV, lookVs, lookParts, adrOk, baseAt, baseOf, loadAt, partA, binA, unA, resOf, mkRes, envOf, List.range, List.range.loop, evalBuiltin, liveW, cfLive, cfOut, cfRes, regOf, startE, optN, mapGet, mapPut, orZero, keyOk, cellOk]
  | some k => simp only [go_sem, Nat.reduceBEq, Nat.reduceAdd, Nat.reduceSub, Nat.reduceEqDiff, Nat.reduceLeDiff, Nat.reduceMul, rgT, regionT, cfVars, cfKeep, allocs, isv?, stepO, okDst, wantedA, evalOp, evalV, evalS, storeAt, look, ofV, ofC, putA, clearA, lookV, lookVs, lookParts, adrOk, baseAt, baseOf, loadAt, partA, binA, unA, resOf, mkRes, envOf, List.range, List.range.loop, evalBuiltin, liveW, cfLive, cfOut, cfRes, regOf, startE, optN, mapGet, mapPut, orZero, keyOk, cellOk]

theorem idx_mem {l : List Int} {x : Int} : decide (idx l x ≥ 0) = decide (x ∈ l) := by
  unfold idx
  cases h : l.findIdx? (fun y => decide (y = x)) with
  | none =>
    simp only [List.findIdx?_eq_none_iff, decide_eq_false_iff_not] at h
    have : ¬ x ∈ l := fun hm => h x hm rfl
    simp [this]
  | some k =>
    obtain ⟨hk, h1, _⟩ := List.findIdx?_eq_some_iff_getElem.1 h
    have : x ∈ l := by simp at h1; rw [← h1]; exact List.getElem_mem hk
    simp [this]

set_option maxRecDepth 100000 in
set_option maxHeartbeats 4000000 in
theorem c26 {σ : St} {base : Nat} {a : AV} {l : List Int} (hs : Sl σ 1 a (ints l)) {x : Int} (hlen : l.length < 2^62) :
    callL Try.prog cfW 26 [a, .int .i64 x] σ base = some (.bool (decide (x ∈ l)), σ) := by
  have hv := hs.v
  refine callL_pure (σ' := σ) (v := .bool (decide (x ∈ l))) Try.func26 rfl (by kernel_rfl) rfl rfl (by simp) ?_ rfl
  unfold bodyT
  simp only [Try.f26, go_sem, Nat.reduceBEq, Nat.reduceAdd, Nat.reduceSub, Nat.reduceEqDiff, Nat.reduceLeDiff, Nat.reduceMul, rgT, regionT, cfVars, cfKeep, allocs, isv?, stepO, okDst, wantedA, evalOp, evalV, evalS, storeAt, look, ofV, ofC, putA, clearA, lookV, lookVs, lookParts, adrOk, baseAt, baseOf, loadAt, partA, binA, unA, resOf, mkRes, envOf, List.range, List.range.loop, evalBuiltin, liveW, cfLive, cfOut, cfRes, regOf, startE, optN, mapGet, mapPut, orZero, keyOk, cellOk, hv, c31 hs hlen, idx_mem]

set_option maxRecDepth 100000 in
set_option maxHeartbeats 4000000 in
theorem c17 {σ : St} {base : Nat} {a b : AV} {l m : List Int} (ha : Sl σ 1 a (ints l)) (hb : Sl σ 1 b (ints m)) (hlen : l.length < 2^62) :
    callL Try.prog cfW 17 [a, b] σ base = some (.bool (decide (l = m)), σ) := by
  have al := ha.len
  have av := ha.v
  have ae := ha.el
  have bl := hb.len
  have bv := hb.v
  have be := hb.el
  rw [ints_len] at al bl
  refine callL_pure (σ' := σ) (v := .bool (decide (l = m))) Try.func17 rfl (by kernel_rfl) rfl rfl (by simp) ?_ rfl
  unfold bodyT
  by_cases hne : (l.length : Int) = m.length
  · have hlm : l.length = m.length := by omega
    have key : ∀ n (i : Nat), i + n = l.length → loopM Try.prog cfW 17 σ.length (loopOf Try.f17 4) (envOf 26 [(0, a), (1, b), (5, .int .i64 i)], σ) =
       if l.drop i = m.drop i then some (.exit 0, envOf 26 [], σ) else some (.ret, envOf 26 [(4, .bool false)], σ) := by
      intro n
      induction n with
      | zero =>
        intro i hi
        have hi' : ¬ ((i : Int) < l.length) := by omega
        have hd : l.drop i = [] := List.drop_eq_nil_of_le (by omega)
        have hd' : m.drop i = [] := List.drop_eq_nil_of_le (by omega)
        rw [loopM_step (by rfl), hd, hd', if_pos rfl]
        simp only [loopOf, findLoop, regOf, Option.getD, envOf, List.range, List.range.loop, go_sem, Nat.reduceBEq, Try.f17]
        simp only [go_sem, Nat.reduceBEq, Nat.reduceAdd, Nat.reduceSub, Nat.reduceEqDiff, Nat.reduceLeDiff, Nat.reduceMul, rgT, regionT, cfVars, cfKeep, allocs, isv?, stepO, okDst, wantedA, evalOp, evalV, evalS, storeAt, look, ofV, ofC, putA, clearA, lookV, lookVs, lookParts, adrOk, baseAt, baseOf, loadAt, partA, binA, unA, resOf, mkRes, envOf, List.range, List.range.loop, evalBuiltin, liveW, cfLive, cfOut, cfRes, regOf, startE, optN, mapGet, mapPut, orZero, keyOk, cellOk, al, av, bl, bv, hi']
      | succ n ih =>
        intro i hi
        have hlt : i < l.length := by omega
        have hlt' : i < m.length := by omega
        obtain ⟨i1, i2⟩ := in_rangeN hlt
        obtain ⟨j1, j2⟩ := in_rangeN hlt'
        rw [ints_len] at i1 j1
        have hd := drop_getD hlt
        have hd' := drop_getD hlt'
        have hw : IntKind.i64.wrap ((i : Int) + 1) = ((i + 1 : Nat) : Int) := by rw [wrap_i64] <;> omega
        have ih' := ih (i + 1) (by omega)
        rw [loopM_step (by rfl), hd, hd']
        simp only [loopOf, findLoop, regOf, Option.getD, envOf, List.range, List.range.loop, go_sem, Nat.reduceBEq, Try.f17] at ih' ⊢
        generalize l.getD i 0 = y at *
        generalize m.getD i 0 = z at *
        by_cases hq : y = z
        · subst hq
          simp only [go_sem, Nat.reduceBEq, Nat.reduceAdd, Nat.reduceSub, Nat.reduceEqDiff, Nat.reduceLeDiff, Nat.reduceMul, rgT, regionT, cfVars, cfKeep, allocs, isv?, stepO, okDst, wantedA, evalOp, evalV, evalS, storeAt, look, ofV, ofC, putA, clearA, lookV, lookVs, lookParts, adrOk, baseAt, baseOf, loadAt, partA, binA, unA, resOf, mkRes, envOf, List.range, List.range.loop, evalBuiltin, liveW, cfLive, cfOut, cfRes, regOf, startE, optN, mapGet, mapPut, orZero, keyOk, cellOk, al, av, ae, bl, bv, be, i1, i2, j1, j2, hw, ih', List.cons.injEq, true_and]
        · simp only [go_sem, Nat.reduceBEq, Nat.reduceAdd, Nat.reduceSub, Nat.reduceEqDiff, Nat.reduceLeDiff, Nat.reduceMul, rgT, regionT, cfVars, cfKeep, allocs, isv?, stepO, okDst, wantedA, evalOp, evalV, evalS, storeAt, look, ofV, ofC, putA, clearA, lookV, lookVs, lookParts, adrOk, baseAt, baseOf, loadAt, partA, binA, unA, resOf, mkRes, envOf, List.range, List.range.loop, evalBuiltin, liveW, cfLive, cfOut, cfRes, regOf, startE, optN, mapGet, mapPut, orZero, keyOk, cellOk, al, av, ae, bl, bv, be, i1, i2, j1, j2, hq, List.cons.injEq, false_and]
    have key0 := key l.length 0 (by omega)
    rw [show ((0 : Nat) : Int) = 0 from rfl] at key0
    simp only [loopOf, findLoop, regOf, Option.getD, envOf, List.range, List.range.loop, go_sem, Nat.reduceBEq, Try.f17] at key0
    simp only [Try.f17, go_sem, Nat.reduceBEq, Nat.reduceAdd, Nat.reduceSub, Nat.reduceEqDiff, Nat.reduceLeDiff, Nat.reduceMul, rgT, regionT, cfVars, cfKeep, allocs, isv?, stepO, okDst, wantedA, evalOp, evalV, evalS, storeAt, look, ofV, ofC, putA, clearA, lookV, lookVs, lookParts, adrOk, baseAt, baseOf, loadAt, partA, binA, unA, resOf, mkRes, envOf, List.range, List.range.loop, evalBuiltin, liveW, cfLive, cfOut, cfRes, regOf, startE, optN, mapGet, mapPut, orZero, keyOk, cellOk, al, av, bl, bv, hne] at key0 ⊢
    simp only [key0]
    by_cases h : l = m
    · simp only [go_sem, Nat.reduceBEq, Nat.reduceAdd, Nat.reduceSub, Nat.reduceEqDiff, Nat.reduceLeDiff, Nat.reduceMul, rgT, regionT, cfVars, cfKeep, allocs, isv?, stepO, okDst, wantedA, evalOp, evalV, evalS, storeAt, look, ofV, ofC, putA, clearA, lookV, lookVs, lookParts, adrOk, baseAt, baseOf, loadAt, partA, binA, unA, resOf, mkRes, envOf, List.range, List.range.loop, evalBuiltin, liveW, cfLive, cfOut, cfRes, regOf, startE, optN, mapGet, mapPut, orZero, keyOk, cellOk, h]
    · simp only [go_sem, Nat.reduceBEq, Nat.reduceAdd, Nat.reduceSub, Nat.reduceEqDiff, Nat.reduceLeDiff, Nat.reduceMul, rgT, regionT, cfVars, cfKeep, allocs, isv?, stepO, okDst, wantedA, evalOp, evalV, evalS, storeAt, look, ofV, ofC, putA, clearA, lookV, lookVs, lookParts, adrOk, baseAt, baseOf, loadAt, partA, binA, unA, resOf, mkRes, envOf, List.range, List.range.loop, evalBuiltin, liveW, cfLive, cfOut, cfRes, regOf, startE, optN, mapGet, mapPut, orZero, keyOk, cellOk, h]
  · have h : ¬ l = m := fun e => hne (by rw [e])
    simp only [Try.f17, go_sem, Nat.reduceBEq, Nat.reduceAdd, Nat.reduceSub, Nat.reduceEqDiff, Nat.reduceLeDiff, Nat.reduceMul, rgT, regionT, cfVars, cfKeep, allocs, isv?, stepO, okDst, wantedA, evalOp, evalV, evalS, storeAt, look, ofV, ofC, putA, clearA, lookV, lookVs, lookParts, adrOk, baseAt, baseOf, loadAt, partA, binA, unA, resOf, mkRes, envOf, List.range, List.range.loop, evalBuiltin, liveW, cfLive, cfOut, cfRes, regOf, startE, optN, mapGet, mapPut, orZero, keyOk, cellOk, al, av, bl, bv, hne, h]

end Go.Can
