/- Contracts: the reference's helpers. -/
import Derived.Test.YtgpopkpepebibaaWorkA
set_option linter.unusedSimpArgs false
set_option linter.unusedVariables false
namespace Go.Can
open Go Go.Proofs

theorem wrap_i64 {n : Int} (h0 : -(2^63) ≤ n) (h1 : n < 2^63) : IntKind.i64.wrap n = n := by
  simp [IntKind.wrap, IntKind.bits, IntKind.signed]
  omega

theorem ints_len {l : List Int} : (ints l).length = l.length := by simp [ints]
theorem ints_get {l : List Int} {i : Nat} {x : Int} (h : l[i]? = some x) : (ints l)[(i : Int).toNat]? = some (.int .i64 x) := by simp [ints, h]

def bef (rank : List Int) (a b : Int) : Bool := decide (rank.getD a.toNat 0 < rank.getD b.toNat 0) || (decide (rank.getD a.toNat 0 = rank.getD b.toNat 0) && decide (a < b))

theorem in_range {l : List Int} {i : Int} (h : 0 ≤ i ∧ i < l.length) : (0 ≤ i) = True ∧ (i < ((ints l).length : Int)) = True ∧ (ints l)[i.toNat]? = some (.int .i64 (l.getD i.toNat 0)) := by
  have h1 : i.toNat < l.length := by omega
  refine ⟨by simp [h.1], by simp [ints_len, h.2], ?_⟩
  simp [ints, h1]

theorem in_rangeN {l : List Int} {i : Nat} (h : i < l.length) : ((i : Int) < ((ints l).length : Int)) = True ∧ (ints l)[i]? = some (.int .i64 (l.getD i 0)) := by
  refine ⟨by simp [ints_len, h], ?_⟩
  simp [ints, h]

theorem drop_getD {l : List Int} {i : Nat} (h : i < l.length) : l.drop i = l.getD i 0 :: l.drop (i + 1) := by rw [List.drop_eq_getElem_cons h]; simp [h]

set_option maxRecDepth 100000 in
set_option maxHeartbeats 4000000 in
/-- The reference's 'before'. -/
theorem c24 {σ : St} {base : Nat} {r : AV} {rank : List Int} (hs : Sl σ 1 r (ints rank)) {a b : Int} (ha : 0 ≤ a ∧ a < rank.length) (hb : 0 ≤ b ∧ b < rank.length) :
    callL Try.prog cfW 24 [r, .int .i64 a, .int .i64 b] σ base = some (.bool (bef rank a b), σ) := by
  have hl := hs.len
  have hv := hs.v
  have he := hs.el
  obtain ⟨a1, a2, a3⟩ := in_range ha
  obtain ⟨b1, b2, b3⟩ := in_range hb
  refine callL_pure (σ' := σ) (v := .bool (bef rank a b)) Try.func24 rfl (by kernel_rfl) rfl rfl (by simp) ?_ rfl
  unfold bodyT bef
  generalize rank.getD a.toNat 0 = x at *
  generalize rank.getD b.toNat 0 = y at *
  by_cases hlt : x < y
  · simp only [Try.f24, go_sem, Nat.reduceBEq, Nat.reduceAdd, Nat.reduceSub, Nat.reduceEqDiff, Nat.reduceLeDiff, Nat.reduceMul, rgT, regionT, cfVars, cfKeep, allocs, isv?, stepO, okDst, wantedA, evalOp, evalV, evalS, storeAt, look, ofV, ofC, putA, clearA, lookV, lookVs, lookParts, adrOk, baseAt, baseOf, loadAt, partA, binA, unA, resOf, mkRes, envOf, List.range, List.range.loop, evalBuiltin, liveW, cfLive, cfOut, cfRes, regOf, startE, optN, mapGet, mapPut, orZero, keyOk, cellOk, hl, hv, he, a1, a2, a3, b1, b2, b3, hlt]
  · by_cases heq : x = y
    · subst heq
      simp only [Try.f24, go_sem, Nat.reduceBEq, Nat.reduceAdd, Nat.reduceSub, Nat.reduceEqDiff, Nat.reduceLeDiff, Nat.reduceMul, rgT, regionT, cfVars, cfKeep, allocs, isv?, stepO, okDst, wantedA, evalOp, evalV, evalS, storeAt, look, ofV, ofC, putA, clearA, lookV, lookVs, lookParts, adrOk, baseAt, baseOf, loadAt, partA, binA, unA, resOf, mkRes, envOf, List.range, List.range.loop, evalBuiltin, liveW, cfLive, cfOut, cfRes, regOf, startE, optN, mapGet, mapPut, orZero, keyOk, cellOk, hl, hv, he, a1, a2, a3, b1, b2, b3]
    · simp only [Try.f24, go_sem, Nat.reduceBEq, Nat.reduceAdd, Nat.reduceSub, Nat.reduceEqDiff, Nat.reduceLeDiff, Nat.reduceMul, rgT, regionT, cfVars, cfKeep, allocs, isv?, stepO, okDst, wantedA, evalOp, evalV, evalS, storeAt, look, ofV, ofC, putA, clearA, lookV, lookVs, lookParts, adrOk, baseAt, baseOf, loadAt, partA, binA, unA, resOf, mkRes, envOf, List.range, List.range.loop, evalBuiltin, liveW, cfLive, cfOut, cfRes, regOf, startE, optN, mapGet, mapPut, orZero, keyOk, cellOk, hl, hv, he, a1, a2, a3, b1, b2, b3, hlt, heq]

set_option maxRecDepth 100000 in
set_option maxHeartbeats 4000000 in
/-- The program's 'before'. -/
theorem c27 {σ : St} {base : Nat} {r : AV} {rank : List Int} (hs : Sl σ 1 r (ints rank)) {a b : Int} (ha : 0 ≤ a ∧ a < rank.length) (hb : 0 ≤ b ∧ b < rank.length) :
    callL Try.prog cfW 27 [r, .int .i64 a, .int .i64 b] σ base = some (.bool (bef rank a b), σ) := by
  have hl := hs.len
  have hv := hs.v
  have he := hs.el
  obtain ⟨a1, a2, a3⟩ := in_range ha
  obtain ⟨b1, b2, b3⟩ := in_range hb
  refine callL_pure (σ' := σ) (v := .bool (bef rank a b)) Try.func27 rfl (by kernel_rfl) rfl rfl (by simp) ?_ rfl
  unfold bodyT bef
  generalize rank.getD a.toNat 0 = x at *
  generalize rank.getD b.toNat 0 = y at *
  by_cases heq : x = y
  · subst heq
    simp only [Try.f27, go_sem, Nat.reduceBEq, Nat.reduceAdd, Nat.reduceSub, Nat.reduceEqDiff, Nat.reduceLeDiff, Nat.reduceMul, rgT, regionT, cfVars, cfKeep, allocs, isv?, stepO, okDst, wantedA, evalOp, evalV, evalS, storeAt, look, ofV, ofC, putA, clearA, lookV, lookVs, lookParts, adrOk, baseAt, baseOf, loadAt, partA, binA, unA, resOf, mkRes, envOf, List.range, List.range.loop, evalBuiltin, liveW, cfLive, cfOut, cfRes, regOf, startE, optN, mapGet, mapPut, orZero, keyOk, cellOk, hl, hv, he, a1, a2, a3, b1, b2, b3]
  · simp only [Try.f27, go_sem, Nat.reduceBEq, Nat.reduceAdd, Nat.reduceSub, Nat.reduceEqDiff, Nat.reduceLeDiff, Nat.reduceMul, rgT, regionT, cfVars, cfKeep, allocs, isv?, stepO, okDst, wantedA, evalOp, evalV, evalS, storeAt, look, ofV, ofC, putA, clearA, lookV, lookVs, lookParts, adrOk, baseAt, baseOf, loadAt, partA, binA, unA, resOf, mkRes, envOf, List.range, List.range.loop, evalBuiltin, liveW, cfLive, cfOut, cfRes, regOf, startE, optN, mapGet, mapPut, orZero, keyOk, cellOk, hl, hv, he, a1, a2, a3, b1, b2, b3, heq]

end Go.Can
