/- Contracts: New, Pop. -/
import Derived.Test.YtgpopkpepebibaaWorkH
set_option linter.unusedSimpArgs false
set_option linter.unusedVariables false
namespace Go.Can
open Go Go.Proofs

theorem slice_max {id n : Nat} (h : 1 ≤ n) : sliceOf 1 (.row 1 id n 0 n false) (some 1) (some n) (some n) = some (.row 1 id n 1 (n - 1) true) := by
  simp only [sliceOf, beq_self_eq_true, if_true, Option.getD_some]
  rw [if_pos ⟨by omega, by omega, by omega, by omega, rfl⟩]
  simp

theorem row_len {σ : St} {id n : Nat} {l : List Int} : lenS (.row 1 id n 0 n false) = some n := rfl

set_option maxRecDepth 100000 in
set_option maxHeartbeats 4000000 in
theorem c9 {σ : St} {base : Nat} {r : AV} {rank : List Int} (hr : Slw σ r rank) (hlen : rank.length < 2^40) :
    ∃ a b, callL Try.prog cfW 9 [r] σ base = some (.tup [.agg [a, b], .int .i64 (if (rank.length : Int) > 8192 then 3 else 0)], σ) ∧ Ls a (if (rank.length : Int) > 8192 then [] else rank) ∧ Ls b [] := by
  have rv := hr.here.v
  have rl := hr.here.len
  rw [ints_len] at rl
  by_cases h : (rank.length : Int) > 8192
  · refine ⟨.list true 0 [], .list true 0 [], ?_, by rw [if_pos h]; exact .nil, .nil⟩
    refine callL_pure (σ' := σ) (v := .tup [.agg [.list true 0 [], .list true 0 []], .int .i64 (if (rank.length : Int) > 8192 then 3 else 0)]) Try.func9 rfl (by kernel_rfl) rfl rfl (by simp) ?_ ?_
    · unfold bodyT
      simp only [Try.f9, go_sem, Nat.reduceBEq, Nat.reduceAdd, Nat.reduceSub, Nat.reduceEqDiff, Nat.reduceLeDiff, Nat.reduceMul, rgT, regionT, cfVars, cfKeep, allocs, isv?, stepO, okDst, wantedA, evalOp, evalV, evalS, storeAt, look, ofV, ofC, putA, clearA, lookV, lookVs, lookParts, adrOk, baseAt, baseOf, loadAt, partA, binA, unA, resOf, mkRes, envOf, List.range, List.range.loop, evalBuiltin, liveW, cfLive, cfOut, cfRes, regOf, startE, optN, mapGet, mapPut, orZero, keyOk, cellOk, rv, rl, h]
    · simp only [go_sem]; rfl
  · have hown := fun b => c23 (base := b) hr.here hlen
    refine ⟨.list false 1 (ints rank), .list true 0 [], ?_, by rw [if_neg h]; exact .list, .nil⟩
    refine callL_pure (σ' := σ ++ [.row 1 (ints rank)]) (v := .tup [.agg [.row 1 σ.length rank.length 0 rank.length false, .list true 0 []], .int .i64 (if (rank.length : Int) > 8192 then 3 else 0)]) Try.func9 rfl (by kernel_rfl) rfl rfl (by simp) ?_ ?_
    · unfold bodyT
      simp only [Try.f9, go_sem, Nat.reduceBEq, Nat.reduceAdd, Nat.reduceSub, Nat.reduceEqDiff, Nat.reduceLeDiff, Nat.reduceMul, rgT, regionT, cfVars, cfKeep, allocs, isv?, stepO, okDst, wantedA, evalOp, evalV, evalS, storeAt, look, ofV, ofC, putA, clearA, lookV, lookVs, lookParts, adrOk, baseAt, baseOf, loadAt, partA, binA, unA, resOf, mkRes, envOf, List.range, List.range.loop, evalBuiltin, liveW, cfLive, cfOut, cfRes, regOf, startE, optN, mapGet, mapPut, orZero, keyOk, cellOk, rv, rl, h, hown]
    · have q := frz_row (n := σ.length) (σ := σ ++ [.row 1 (ints rank)]) (k := 2) (id := σ.length) (l := rank) (off := 0) (len := rank.length) (lim := false) (Nat.le_refl _) (by simp)
      simp only [List.drop_zero, List.take_length] at q
      simp only [go_sem, q]
      rfl

set_option maxRecDepth 100000 in
set_option maxHeartbeats 4000000 in
theorem c10 {σ : St} {base : Nat} {r it : AV} {rank items : List Int} (hr : Ls r rank) (hi : Ls it items) (hlen : items.length < 2^40) (hlenr : rank.length < 2^40) :
    (∃ a b, (chkQ rank items ≠ 0 ∨ items = []) ∧ callL Try.prog cfW 10 [.agg [r, it]] σ base = some (.tup [.int .i64 0, .agg [a, b], .bool false], σ) ∧ Ls a [] ∧ Ls b []) ∨
    ∃ x xs a b, chkQ rank items = 0 ∧ items = x :: xs ∧ callL Try.prog cfW 10 [.agg [r, it]] σ base = some (.tup [.int .i64 x, .agg [a, b], .bool true], σ) ∧ Ls a rank ∧ Ls b xs := by
  have rv := (hr.slw σ).here.v
  have rc := (hr.slw σ).here.cells
  have iv := (hi.slw σ).here.v
  have ic := (hi.slw σ).here.cells
  have il := (hi.slw σ).here.len
  have ie := (hi.slw σ).here.el
  rw [ints_len] at il
  have hck := fun b => c16 (base := b) (hr.slw σ).here (hi.slw σ).here (hr.slw σ).sl (hi.slw σ).sl (by omega)
  by_cases h : chkQ rank items = 0
  · cases items with
    | nil =>
      left
      refine ⟨.list true 0 [], .list true 0 [], .inr rfl, ?_, .nil, .nil⟩
      refine callL_pure (σ' := σ) (v := .tup [.int .i64 0, .agg [.list true 0 [], .list true 0 []], .bool false]) Try.func10 rfl (by kernel_rfl) rfl rfl (by simp) ?_ rfl
      unfold bodyT
      simp only [List.length_nil] at il
      simp only [Try.f10, go_sem, Nat.reduceBEq, Nat.reduceAdd, Nat.reduceSub, Nat.reduceEqDiff, Nat.reduceLeDiff, Nat.reduceMul, rgT, regionT, cfVars, cfKeep, allocs, isv?, stepO, okDst, wantedA, evalOp, evalV, evalS, storeAt, look, ofV, ofC, putA, clearA, lookV, lookVs, lookParts, adrOk, baseAt, baseOf, loadAt, partA, binA, unA, resOf, mkRes, envOf, List.range, List.range.loop, evalBuiltin, liveW, cfLive, cfOut, cfRes, regOf, startE, optN, mapGet, mapPut, orZero, keyOk, cellOk, rv, rc, ic, il, iv, hck, h, List.length_nil]
    | cons x xs =>
      right
      have hz : ¬ (((x :: xs).length : Nat) : Int) = 0 := by rw [List.length_cons]; omega
      have hlt : ((0 : Int) < (((x :: xs).length : Nat) : Int)) = True := by rw [List.length_cons]; simp
      have hget : (ints (x :: xs))[(0 : Int).toNat]? = some (.int .i64 x) := rfl
      have hown := fun b => c23 (base := b) (hi.slw σ).here hlen
      have hown2 := fun b => c23 (base := b) ((hr.slw σ).sl [.row 1 (ints (x :: xs))]) hlenr
      have hsl := fun id => slice_max (id := id) (n := (x :: xs).length) (by simp)
      have h00 : ((0 : Int) ≤ 0) = True := by simp
      have hel : elems (σ ++ [.row 1 (ints (x :: xs))]) 1 (.row 1 σ.length (x :: xs).length 0 (x :: xs).length false) = some (ints (x :: xs)) := by
        simp only [elems, go_sem, ints_len]
        simp [ints]
        exact List.take_of_length_le (by simp)
      refine ⟨x, xs, .list false 1 (ints rank), .list false 1 (ints xs), h, rfl, ?_, .list, .list⟩
      refine callL_pure (σ' := σ ++ [.row 1 (ints (x :: xs)), .row 1 (ints rank)]) (v := .tup [.int .i64 x, .agg [.row 1 (σ.length + 1) rank.length 0 rank.length false, .row 1 σ.length (x :: xs).length 1 ((x :: xs).length - 1) true], .bool true]) Try.func10 rfl (by kernel_rfl) rfl rfl (by simp) ?_ ?_
      · unfold bodyT
        generalize (x :: xs).length = n at *
        simp only [x_lenApp, x_lenS, x_len0] at hown2
        simp only [Try.f10, go_sem, Nat.reduceBEq, Nat.reduceAdd, Nat.reduceSub, Nat.reduceEqDiff, Nat.reduceLeDiff, Nat.reduceMul, rgT, regionT, cfVars, cfKeep, allocs, isv?, stepO, okDst, wantedA, evalOp, evalV, evalS, storeAt, look, ofV, ofC, putA, clearA, lookV, lookVs, lookParts, adrOk, baseAt, baseOf, loadAt, partA, binA, unA, resOf, mkRes, envOf, List.range, List.range.loop, evalBuiltin, liveW, cfLive, cfOut, cfRes, regOf, startE, optN, mapGet, mapPut, orZero, keyOk, cellOk, rv, rc, ic, il, iv, ie, hck, h, hz, hlt, hget, hown, hown2, hsl, h00, hel]
      · have q1 := frz_row (n := σ.length) (σ := σ ++ [.row 1 (ints (x :: xs)), .row 1 (ints rank)]) (k := 2) (id := σ.length + 1) (l := rank) (off := 0) (len := rank.length) (lim := false) (by omega) (by simp)
        have q2 := frz_row (n := σ.length) (σ := σ ++ [.row 1 (ints (x :: xs)), .row 1 (ints rank)]) (k := 2) (id := σ.length) (l := x :: xs) (off := 1) (len := (x :: xs).length - 1) (lim := true) (by omega) (by simp)
        simp only [List.drop_zero, List.take_length] at q1
        have e : ((x :: xs).drop 1).take ((x :: xs).length - 1) = xs := by simp
        rw [e] at q2
        simp only [go_sem] at q1 q2 ⊢
        simp only [go_sem, q1, q2]
  · left
    refine ⟨.list true 0 [], .list true 0 [], .inl h, ?_, .nil, .nil⟩
    refine callL_pure (σ' := σ) (v := .tup [.int .i64 0, .agg [.list true 0 [], .list true 0 []], .bool false]) Try.func10 rfl (by kernel_rfl) rfl rfl (by simp) ?_ rfl
    unfold bodyT
    simp only [Try.f10, go_sem, Nat.reduceBEq, Nat.reduceAdd, Nat.reduceSub, Nat.reduceEqDiff, Nat.reduceLeDiff, Nat.reduceMul, rgT, regionT, cfVars, cfKeep, allocs, isv?, stepO, okDst, wantedA, evalOp, evalV, evalS, storeAt, look, ofV, ofC, putA, clearA, lookV, lookVs, lookParts, adrOk, baseAt, baseOf, loadAt, partA, binA, unA, resOf, mkRes, envOf, List.range, List.range.loop, evalBuiltin, liveW, cfLive, cfOut, cfRes, regOf, startE, optN, mapGet, mapPut, orZero, keyOk, cellOk, rv, rc, ic, il, iv, hck, h]

end Go.Can
