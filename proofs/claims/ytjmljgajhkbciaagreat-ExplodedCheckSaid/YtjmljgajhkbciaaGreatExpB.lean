/- Contracts: a step of a valid path. -/
import Derived.Test.YtjmljgajhkbciaaGreatExpA
set_option linter.unusedSimpArgs false
set_option linter.unusedVariables false
namespace Go.Can
open Go Go.Proofs

/-- A slice of numbers, as an argument or as a frozen result. -/
inductive IsI : AV → List Int → Prop
  | nil (b : Bool) (s : Nat) : IsI (.list b s []) []
  | list (b : Bool) (st : List Int) : IsI (.list b 1 (ints st)) st

theorem IsI.sl {σ : St} {cv : AV} {st : List Int} (h : IsI cv st) : Sl σ 1 cv (ints st) := by
  cases h with
  | nil b s => exact Sl.nil s
  | list b st => exact Sl.list _

def rets (e : ED) : Bool := decide (e.2.2.1 = 3 ∨ e.2.2.1 = 4)
def allowsB (st : List Int) (e : ED) : Bool := !rets e || (decide (0 < st.length) && decide (st.getD (st.length - 1) 0 = e.2.2.2))
def stepSt (st : List Int) (e : ED) : List Int := if e.2.2.1 = 2 then st ++ [e.1] else if rets e = true then st.take (st.length - 1) else st

set_option maxRecDepth 100000 in
set_option maxHeartbeats 4000000 in
theorem c122 {σ : St} {base : Nat} {e1 e2 e3 e4 : Int} : callL Tryz.prog cfI 79 [.agg [.int .i64 e1, .int .i64 e2, .int .i64 e3, .int .i64 e4]] σ base = some (.bool (rets (e1, e2, e3, e4)), σ) := by
  refine callL_pure (σ' := σ) (v := .bool (rets (e1, e2, e3, e4))) Tryz.func79 rfl (by kernel_rfl) rfl rfl (by simp) ?_ rfl
  rw [z_body]
  unfold rets
  simp only [Tryz.f79, go_sem, Nat.reduceBEq, Nat.reduceAdd, Nat.reduceSub, Nat.reduceEqDiff, Nat.reduceLeDiff, Nat.reduceMul, rgT, z_regionT, allocs, isv?, z_step, z_stepE, okDst, wantedA, evalOp, evalV, evalS, storeAt, look, ofV, ofC, putA, clearA, lookV, lookVs, lookParts, adrOk, baseAt, baseOf, loadAt, partA, binA, unA, resOf, mkRes, envOf, List.range, List.range.loop, evalBuiltin, liveW, regOf, startE, optN, mapGet, mapPut, orZero, keyOk, cellOk, decide_eq_true_eq, Bool.not_eq_true', decide_eq_false_iff_not, ite_not, not_true_eq_false, not_false_eq_true, reduceCtorEq, and_true, true_and, and_self]
  (repeat' split) <;> simp_all

set_option maxRecDepth 100000 in
set_option maxHeartbeats 4000000 in
theorem c103 {σ : St} {base : Nat} {n : Int} {cv : AV} {st : List Int} {e1 e2 e3 e4 : Int} (hI : IsI cv st) (hlen : st.length < 2^63) :
    callL Tryz.prog cfI 59 [.agg [.int .i64 n, cv], .agg [.int .i64 e1, .int .i64 e2, .int .i64 e3, .int .i64 e4]] σ base = some (.bool (allowsB st (e1, e2, e3, e4)), σ) := by
  have hS := hI.sl (σ := σ)
  have hl := hS.len
  have hv := hS.v
  have hel := hS.el
  rw [ints_len] at hl
  refine callL_pure (σ' := σ) (v := .bool (allowsB st (e1, e2, e3, e4))) Tryz.func59 rfl (by kernel_rfl) rfl rfl (by simp) ?_ rfl
  rw [z_body]
  have h122 := fun b => c122 (σ := σ) (base := b) (e1 := e1) (e2 := e2) (e3 := e3) (e4 := e4)
  unfold allowsB
  generalize rets (e1, e2, e3, e4) = r at *
  cases r with
  | false => simp only [Tryz.f59, go_sem, Nat.reduceBEq, Nat.reduceAdd, Nat.reduceSub, Nat.reduceEqDiff, Nat.reduceLeDiff, Nat.reduceMul, rgT, z_regionT, allocs, isv?, z_step, z_stepE, okDst, wantedA, evalOp, evalV, evalS, storeAt, look, ofV, ofC, putA, clearA, lookV, lookVs, lookParts, adrOk, baseAt, baseOf, loadAt, partA, binA, unA, resOf, mkRes, envOf, List.range, List.range.loop, evalBuiltin, liveW, regOf, startE, optN, mapGet, mapPut, orZero, keyOk, cellOk, decide_eq_true_eq, Bool.not_eq_true', decide_eq_false_iff_not, ite_not, not_true_eq_false, not_false_eq_true, reduceCtorEq, and_true, true_and, and_self, hv, hl, h122, Bool.not_false, Bool.true_or]
  | true =>
    simp only [Bool.not_true, Bool.false_or]
    by_cases h0 : 0 < st.length
    · have h0' : (0 : Int) < (st.length : Int) := by omega
      have hw : IntKind.i64.wrap ((st.length : Int) - 1) = ((st.length - 1 : Nat) : Int) := by rw [wrap_i64] <;> omega
      have hi1 : (0 : Int) ≤ ((st.length - 1 : Nat) : Int) := by omega
      have hi2 : ((st.length - 1 : Nat) : Int) < (st.length : Int) := by omega
      have hg : (ints st)[st.length - 1]? = some (.int .i64 (st.getD (st.length - 1) 0)) := by
        have : st.length - 1 < st.length := by omega
        simp [ints, this]
      rw [decide_eq_true h0, Bool.true_and]
      generalize st.getD (st.length - 1) 0 = q at *
      generalize ints st = A at *
      generalize st.length - 1 = k at *
      by_cases hq : q = e4
      · simp (config := { maxSteps := 4000000 }) only [Tryz.f59, go_sem, Nat.reduceBEq, Nat.reduceAdd, Nat.reduceSub, Nat.reduceEqDiff, Nat.reduceLeDiff, Nat.reduceMul, rgT, z_regionT, allocs, isv?, z_step, z_stepE, okDst, wantedA, evalOp, evalV, evalS, storeAt, look, ofV, ofC, putA, clearA, lookV, lookVs, lookParts, adrOk, baseAt, baseOf, loadAt, partA, binA, unA, resOf, mkRes, envOf, List.range, List.range.loop, evalBuiltin, liveW, regOf, startE, optN, mapGet, mapPut, orZero, keyOk, cellOk, decide_eq_true_eq, Bool.not_eq_true', decide_eq_false_iff_not, ite_not, not_true_eq_false, not_false_eq_true, reduceCtorEq, and_true, true_and, and_self, gt_iff_lt, hv, hl, hel, h122, h0', hw, hi1, hi2, hg, hq, decide_true]
      · simp (config := { maxSteps := 4000000 }) only [Tryz.f59, go_sem, Nat.reduceBEq, Nat.reduceAdd, Nat.reduceSub, Nat.reduceEqDiff, Nat.reduceLeDiff, Nat.reduceMul, rgT, z_regionT, allocs, isv?, z_step, z_stepE, okDst, wantedA, evalOp, evalV, evalS, storeAt, look, ofV, ofC, putA, clearA, lookV, lookVs, lookParts, adrOk, baseAt, baseOf, loadAt, partA, binA, unA, resOf, mkRes, envOf, List.range, List.range.loop, evalBuiltin, liveW, regOf, startE, optN, mapGet, mapPut, orZero, keyOk, cellOk, decide_eq_true_eq, Bool.not_eq_true', decide_eq_false_iff_not, ite_not, not_true_eq_false, not_false_eq_true, reduceCtorEq, and_true, true_and, and_self, gt_iff_lt, hv, hl, hel, h122, h0', hw, hi1, hi2, hg, hq, decide_false]
    · have h0' : ¬ (0 : Int) < (st.length : Int) := by omega
      rw [decide_eq_false h0, Bool.false_and]
      simp (config := { maxSteps := 4000000 }) only [Tryz.f59, go_sem, Nat.reduceBEq, Nat.reduceAdd, Nat.reduceSub, Nat.reduceEqDiff, Nat.reduceLeDiff, Nat.reduceMul, rgT, z_regionT, allocs, isv?, z_step, z_stepE, okDst, wantedA, evalOp, evalV, evalS, storeAt, look, ofV, ofC, putA, clearA, lookV, lookVs, lookParts, adrOk, baseAt, baseOf, loadAt, partA, binA, unA, resOf, mkRes, envOf, List.range, List.range.loop, evalBuiltin, liveW, regOf, startE, optN, mapGet, mapPut, orZero, keyOk, cellOk, decide_eq_true_eq, Bool.not_eq_true', decide_eq_false_iff_not, ite_not, not_true_eq_false, not_false_eq_true, reduceCtorEq, and_true, true_and, and_self, gt_iff_lt, hv, hl, h122, h0']

/-- The calls and one more: a list of its own. -/
theorem slice_app {σ : St} {base : Nat} {cv : AV} {st : List Int} {x : Int} (hI : IsI cv st) (h : (st.length + 1) * 8 ≤ 140737488355328) :
    ∃ c2, sliceOf 1 cv none (some (st.length : Int)) (some (st.length : Int)) = some c2 ∧ (Slot.val c2).v = some c2 ∧
      appendTo base σ 1 8 c2 [.int .i64 x] = some (.row 1 σ.length (st.length + 1) 0 (st.length + 1) false, σ ++ [.row 1 (ints (st ++ [x]))]) := by
  cases hI with
  | nil b s =>
    refine ⟨.list true s [], ?_, rfl, ?_⟩
    · simp [sliceOf]
    · simp [appendTo, ints]
  | list b st =>
    refine ⟨.list true 1 (ints st), ?_, rfl, ?_⟩
    · simp [sliceOf, ints_len]
      exact List.take_of_length_le (by rw [ints_len]; exact Nat.le_refl _)
    · cases st with
      | nil => simp [appendTo, ints]
      | cons y l =>
        have hh : (l.length + 1 + 1) * 8 ≤ 140737488355328 := by simpa using h
        simp [appendTo, ints, hh]

theorem slice_drop {cv : AV} {st : List Int} (hI : IsI cv st) (h0 : 0 < st.length) :
    ∃ b, sliceOf 1 cv none (some ((st.length - 1 : Nat) : Int)) none = some (.list b 1 (ints (st.take (st.length - 1)))) := by
  cases hI with
  | nil b s => simp at h0
  | list b st =>
    refine ⟨b && (st.length - 1 == (ints st).length), ?_⟩
    have h1 : ((st.length - 1 : Nat) : Int) ≤ (st.length : Int) := by omega
    have e1 : ints (st.take (st.length - 1)) = (ints st).take (st.length - 1) := by simp [ints, List.map_take]
    simp [sliceOf, ints_len, h1, e1]

theorem freezeL_two {fz : AV → Option AV} {a b c d : AV} (h1 : fz a = some c) (h2 : fz b = some d) : freezeL fz [a, b] = some [c, d] := by
  unfold freezeL freezeL freezeL
  rw [h1, h2]

theorem freeze_agg {base : Nat} {σ : St} {n : Nat} {xs ys : List AV} (h : freezeL (freeze base σ n) xs = some ys) : freeze base σ (n + 1) (.agg xs) = some (.agg ys) := by
  show (freezeL (freeze base σ n) xs).map AV.agg = _
  rw [h]; rfl
theorem freeze_tup {base : Nat} {σ : St} {n : Nat} {xs ys : List AV} (h : freezeL (freeze base σ n) xs = some ys) : freeze base σ (n + 1) (.tup xs) = some (.tup ys) := by
  show (freezeL (freeze base σ n) xs).map AV.tup = _
  rw [h]; rfl

theorem freeze_row {σ : St} {st : List Int} {n : Nat} : freeze σ.length (σ ++ [.row 1 (ints st)]) (n + 2) (.row 1 σ.length st.length 0 st.length false) = some (.list false 1 (ints st)) := by
  have he : elems (σ ++ [Ob.row 1 (ints st)]) 1 (.row 1 σ.length st.length 0 st.length false) = some (ints st) := by
    have := (Sl.row (σ := σ ++ [Ob.row 1 (ints st)]) (sz := 1) (id := σ.length) (xs := ints st) (by simp) false).el
    rw [ints_len] at this
    exact this
  unfold freeze
  simp only [Nat.lt_irrefl, if_false]
  rw [he]
  simp only
  rw [freezeL_ints]
  rfl

theorem freeze_ints {σ : St} {base : Nat} {b : Bool} {s : Nat} {st : List Int} {n : Nat} : freeze base σ (n + 2) (.list b s (ints st)) = some (.list b s (ints st)) := by
  unfold freeze
  simp only
  rw [freezeL_ints]
  rfl

theorem freeze_place {σ : St} {to : Int} {st : List Int} {k : Nat} (hk : k = st.length) : freeze σ.length (σ ++ [.row 1 (ints st)]) 6 (.agg [.int .i64 to, .row 1 σ.length k 0 k false]) = some (.agg [.int .i64 to, .list false 1 (ints st)]) := by
  subst hk
  exact freeze_agg (n := 5) (freezeL_two rfl (freeze_row (n := 3)))

theorem freeze_list {σ : St} {base : Nat} {to : Int} {b : Bool} {s : Nat} {st : List Int} : freeze base σ 6 (.agg [.int .i64 to, .list b s (ints st)]) = some (.agg [.int .i64 to, .list b s (ints st)]) :=
  freeze_agg (n := 5) (freezeL_two rfl (freeze_ints (n := 3)))
theorem freeze_list5 {σ : St} {base : Nat} {to : Int} {b : Bool} {s : Nat} {st : List Int} : freeze base σ 5 (.agg [.int .i64 to, .list b s (ints st)]) = some (.agg [.int .i64 to, .list b s (ints st)]) :=
  freeze_agg (n := 4) (freezeL_two rfl (freeze_ints (n := 2)))

set_option maxRecDepth 100000 in
set_option maxHeartbeats 4000000 in
theorem c104 {σ : St} {n : Int} {cv : AV} {st : List Int} {e1 e2 e3 e4 : Int} (hI : IsI cv st) (hlen : st.length ≤ 1000000) (hret : rets (e1, e2, e3, e4) = true → 0 < st.length) :
    ∃ c2, IsI c2 (stepSt st (e1, e2, e3, e4)) ∧ ∀ base, callL Tryz.prog cfI 60 [.agg [.int .i64 n, cv], .agg [.int .i64 e1, .int .i64 e2, .int .i64 e3, .int .i64 e4]] σ base = some (.agg [.int .i64 e2, c2], σ) := by
  have hS := hI.sl (σ := σ)
  have hl := hS.len
  have hv := hS.v
  have hcs := hS.cells
  rw [ints_len] at hl
  have h122 := fun b => c122 (σ := σ) (base := b) (e1 := e1) (e2 := e2) (e3 := e3) (e4 := e4)
  unfold stepSt
  simp only
  by_cases h2 : e3 = 2
  · rw [if_pos h2]
    obtain ⟨c2, k1, k2, k3⟩ := slice_app (σ := σ) (base := σ.length) (x := e1) hI (by omega)
    refine ⟨.list false 1 (ints (st ++ [e1])), .list _ _, fun base => ?_⟩
    have hfz := freeze_place (σ := σ) (to := e2) (st := st ++ [e1]) (k := st.length + 1) (by simp)
    refine callL_pure (σ' := σ ++ [.row 1 (ints (st ++ [e1]))]) (v := .agg [.int .i64 e2, .row 1 σ.length (st.length + 1) 0 (st.length + 1) false]) Tryz.func60 rfl (by kernel_rfl) rfl rfl (by simp) ?_ ?_
    rotate_left
    · exact hfz
    rw [z_body]
    subst h2
    generalize ints (st ++ [e1]) = B at *
    simp (config := { maxSteps := 4000000 }) only [Tryz.f60, go_sem, Nat.reduceBEq, Nat.reduceAdd, Nat.reduceSub, Nat.reduceEqDiff, Nat.reduceLeDiff, Nat.reduceMul, rgT, z_regionT, allocs, isv?, z_step, z_stepE, okDst, wantedA, evalOp, evalV, evalS, storeAt, look, ofV, ofC, putA, clearA, lookV, lookVs, lookParts, adrOk, baseAt, baseOf, loadAt, partA, binA, unA, resOf, mkRes, envOf, List.range, List.range.loop, evalBuiltin, liveW, regOf, startE, optN, mapGet, mapPut, orZero, keyOk, cellOk, decide_eq_true_eq, Bool.not_eq_true', decide_eq_false_iff_not, ite_not, not_true_eq_false, not_false_eq_true, reduceCtorEq, and_true, true_and, and_self, hv, hl, k1, k2, k3]
  · rw [if_neg h2]
    cases hr : rets (e1, e2, e3, e4) with
    | true =>
      have h0 := hret hr
      obtain ⟨b, k1⟩ := slice_drop hI h0
      have hw : IntKind.i64.wrap ((st.length : Int) - 1) = ((st.length - 1 : Nat) : Int) := by rw [wrap_i64] <;> omega
      rw [if_pos rfl]
      refine ⟨_, .list b (st.take (st.length - 1)), fun base => ?_⟩
      refine callL_pure (σ' := σ) (v := .agg [.int .i64 e2, .list b 1 (ints (st.take (st.length - 1)))]) Tryz.func60 rfl (by kernel_rfl) rfl rfl (by simp) ?_ ?_
      rotate_left
      · exact freeze_list
      rw [z_body]
      rw [hr] at h122
      generalize ints (st.take (st.length - 1)) = B at *
      generalize st.length - 1 = k at *
      simp (config := { maxSteps := 4000000 }) only [Tryz.f60, go_sem, Nat.reduceBEq, Nat.reduceAdd, Nat.reduceSub, Nat.reduceEqDiff, Nat.reduceLeDiff, Nat.reduceMul, rgT, z_regionT, allocs, isv?, z_step, z_stepE, okDst, wantedA, evalOp, evalV, evalS, storeAt, look, ofV, ofC, putA, clearA, lookV, lookVs, lookParts, adrOk, baseAt, baseOf, loadAt, partA, binA, unA, resOf, mkRes, envOf, List.range, List.range.loop, evalBuiltin, liveW, regOf, startE, optN, mapGet, mapPut, orZero, keyOk, cellOk, decide_eq_true_eq, Bool.not_eq_true', decide_eq_false_iff_not, ite_not, not_true_eq_false, not_false_eq_true, reduceCtorEq, and_true, true_and, and_self, hv, hl, h122, h2, hw, k1]
    | false =>
      rw [if_neg (by decide)]
      refine ⟨cv, hI, fun base => ?_⟩
      have hfz : freeze σ.length σ 6 (.agg [.int .i64 e2, cv]) = some (.agg [.int .i64 e2, cv]) := by
        cases hI with
        | nil b s => exact freeze_list (st := [])
        | list b st => exact freeze_list
      refine callL_pure (σ' := σ) (v := .agg [.int .i64 e2, cv]) Tryz.func60 rfl (by kernel_rfl) rfl rfl (by simp) ?_ ?_
      rotate_left
      · exact hfz
      rw [z_body]
      rw [hr] at h122
      simp (config := { maxSteps := 4000000 }) only [Tryz.f60, go_sem, Nat.reduceBEq, Nat.reduceAdd, Nat.reduceSub, Nat.reduceEqDiff, Nat.reduceLeDiff, Nat.reduceMul, rgT, z_regionT, allocs, isv?, z_step, z_stepE, okDst, wantedA, evalOp, evalV, evalS, storeAt, look, ofV, ofC, putA, clearA, lookV, lookVs, lookParts, adrOk, baseAt, baseOf, loadAt, partA, binA, unA, resOf, mkRes, envOf, List.range, List.range.loop, evalBuiltin, liveW, regOf, startE, optN, mapGet, mapPut, orZero, keyOk, cellOk, decide_eq_true_eq, Bool.not_eq_true', decide_eq_false_iff_not, ite_not, not_true_eq_false, not_false_eq_true, reduceCtorEq, and_true, true_and, and_self, hv, hl, hcs, h122, h2]

end Go.Can
