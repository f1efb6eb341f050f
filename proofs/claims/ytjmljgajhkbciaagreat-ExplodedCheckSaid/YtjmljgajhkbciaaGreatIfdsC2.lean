/- Contracts: comparisons. Contracts: orders and ranges. -/
import Derived.Test.YtjmljgajhkbciaaGreatIfdsA
import Derived.Test.YtjmljgajhkbciaaGreatCanY
set_option linter.unusedSimpArgs false
set_option linter.unusedVariables false
namespace Go.Can
open Go Go.Proofs

@[go_sem] theorem cfI_keep : cfI.keep = cfKeep := rfl
@[go_sem] theorem cfI_isv {f : FuncId} {t : Tmp} : isvOf cfI f t = (cfVars f).contains t := rfl
@[go_sem] theorem cfI_mk {f : FuncId} {c : Code} {o : Option Out} {e : Env} : mkT cfI f c o e = maskA (fun t => (liveW f (regOf c) o).contains t) 0 e := rfl

theorem wrap_i64 {n : Int} (h0 : -(2^63) ≤ n) (h1 : n < 2^63) : IntKind.i64.wrap n = n := by
  simp [IntKind.wrap, IntKind.bits, IntKind.signed]
  omega

set_option maxRecDepth 100000 in
set_option maxHeartbeats 4000000 in
theorem c46 {σ : St} {base : Nat} {a : Int} : callL Tryz.prog cfI 57 [.int .i64 a] σ base = some (.bool false, σ) := by
  refine callL_pure (σ' := σ) (v := .bool false) Tryz.func57 rfl (by kernel_rfl) rfl rfl (by simp) ?_ rfl
  rw [z_body]
  simp only [Tryz.f57, go_sem, Nat.reduceBEq, Nat.reduceAdd, Nat.reduceSub, Nat.reduceEqDiff, Nat.reduceLeDiff, Nat.reduceMul, rgT, z_regionT, allocs, isv?, z_step, z_stepE, okDst, wantedA, evalOp, evalV, evalS, storeAt, look, ofV, ofC, putA, clearA, lookV, lookVs, lookParts, adrOk, baseAt, baseOf, loadAt, partA, binA, unA, resOf, mkRes, envOf, List.range, List.range.loop, evalBuiltin, liveW, regOf, startE, optN, mapGet, mapPut, orZero, keyOk, cellOk, decide_eq_true_eq, Bool.not_eq_true', decide_eq_false_iff_not, ite_not, not_true_eq_false, not_false_eq_true, reduceCtorEq, and_true, true_and, and_self]

set_option maxRecDepth 100000 in
set_option maxHeartbeats 4000000 in
theorem c23 {σ : St} {base : Nat} {a b : Int} : callL Tryz.prog cfI 35 [.int .i64 a, .int .i64 b] σ base = some (.int .i64 (cmpI a b), σ) := by
  refine callL_pure (σ' := σ) (v := .int .i64 (cmpI a b)) Tryz.func35 rfl (by kernel_rfl) rfl rfl (by simp) ?_ rfl
  rw [z_body]
  simp only [Tryz.f35, go_sem, Nat.reduceBEq, Nat.reduceAdd, Nat.reduceSub, Nat.reduceEqDiff, Nat.reduceLeDiff, Nat.reduceMul, rgT, z_regionT, allocs, isv?, z_step, z_stepE, okDst, wantedA, evalOp, evalV, evalS, storeAt, look, ofV, ofC, putA, clearA, lookV, lookVs, lookParts, adrOk, baseAt, baseOf, loadAt, partA, binA, unA, resOf, mkRes, envOf, List.range, List.range.loop, evalBuiltin, liveW, regOf, startE, optN, mapGet, mapPut, orZero, keyOk, cellOk, decide_eq_true_eq, Bool.not_eq_true', decide_eq_false_iff_not, ite_not, not_true_eq_false, not_false_eq_true, reduceCtorEq, and_true, true_and, and_self, c46]
  unfold cmpI
  split
  · rfl
  · split <;> rfl

theorem drop_getI {l : List Int} {i : Nat} (h : i < l.length) : l.drop i = l.getD i 0 :: l.drop (i + 1) := by rw [List.drop_eq_getElem_cons h]; simp [h]

set_option maxRecDepth 100000 in
set_option maxHeartbeats 4000000 in
theorem c22 {σ : St} {base : Nat} {l : List Int} (hlen : l.length < 2^63) : callL Tryz.prog cfI 34 [.list true 1 (l.map (AV.int .i64))] σ base = some (.int .i64 (orI l), σ) := by
  have hll : (l.map (AV.int .i64)).length = l.length := by simp
  have key : ∀ n (i : Nat), i + n = l.length → loopM Tryz.prog cfI 34 σ.length (loopOf Tryz.f34 3) (envOf 18 [(3, .int .i64 0), (6, .list true 1 (l.map (AV.int .i64))), (7, .int .i64 l.length), (8, .int .i64 i)], σ) =
     if orI (l.drop i) = 0 then some (.exit 0, envOf 18 [(3, .int .i64 0)], σ) else some (.ret, envOf 18 [(2, .int .i64 (orI (l.drop i)))], σ) := by
    intro n
    induction n with
    | zero =>
      intro i hi
      have hi' : ¬ ((i : Int) < l.length) := by omega
      have hd : l.drop i = [] := List.drop_eq_nil_of_le (by omega)
      rw [loopM_step (by kernel_rfl), hd]
      simp only [loopOf, findLoop, regOf, Option.getD, envOf, List.range, List.range.loop, go_sem, Nat.reduceBEq, Nat.reduceEqDiff, Option.some.injEq, reduceCtorEq, Tryz.f34]
      simp only [go_sem, Nat.reduceBEq, Nat.reduceAdd, Nat.reduceSub, Nat.reduceEqDiff, Nat.reduceLeDiff, Nat.reduceMul, rgT, z_regionT, allocs, isv?, z_step, z_stepE, okDst, wantedA, evalOp, evalV, evalS, storeAt, look, ofV, ofC, putA, clearA, lookV, lookVs, lookParts, adrOk, baseAt, baseOf, loadAt, partA, binA, unA, resOf, mkRes, envOf, List.range, List.range.loop, evalBuiltin, liveW, regOf, startE, optN, mapGet, mapPut, orZero, keyOk, cellOk, decide_eq_true_eq, Bool.not_eq_true', decide_eq_false_iff_not, ite_not, not_true_eq_false, not_false_eq_true, reduceCtorEq, and_true, true_and, and_self, hi', orI, if_true]
    | succ n ih =>
      intro i hi
      have hlt : i < l.length := by omega
      have hd := drop_getI hlt
      have hw : IntKind.i64.wrap ((i : Int) + 1) = ((i + 1 : Nat) : Int) := by rw [wrap_i64] <;> omega
      have hlt' : (i : Int) < (l.length : Int) := by omega
      have hel : (l.map (AV.int .i64))[i]? = some (.int .i64 (l.getD i 0)) := by simp [hlt]
      have ih' := ih (i + 1) (by omega)
      rw [loopM_step (by kernel_rfl), hd]
      simp only [loopOf, findLoop, regOf, Option.getD, envOf, List.range, List.range.loop, go_sem, Nat.reduceBEq, Nat.reduceEqDiff, Option.some.injEq, reduceCtorEq, Tryz.f34] at ih' ⊢
      generalize l.getD i 0 = y at *
      generalize l.map (AV.int .i64) = A at *
      simp only [go_sem, Nat.reduceBEq, Nat.reduceAdd, Nat.reduceSub, Nat.reduceEqDiff, Nat.reduceLeDiff, Nat.reduceMul, rgT, z_regionT, allocs, isv?, z_step, z_stepE, okDst, wantedA, evalOp, evalV, evalS, storeAt, look, ofV, ofC, putA, clearA, lookV, lookVs, lookParts, adrOk, baseAt, baseOf, loadAt, partA, binA, unA, resOf, mkRes, envOf, List.range, List.range.loop, evalBuiltin, liveW, regOf, startE, optN, mapGet, mapPut, orZero, keyOk, cellOk, decide_eq_true_eq, Bool.not_eq_true', decide_eq_false_iff_not, ite_not, not_true_eq_false, not_false_eq_true, reduceCtorEq, and_true, true_and, and_self, hlt', hel, hll, hw, ih', orI]
      by_cases hy : y = 0
      · simp only [hy, if_true]
      · simp only [hy, if_false]
  have key0 := key l.length 0 (by omega)
  rw [show ((0 : Nat) : Int) = 0 from rfl, List.drop_zero] at key0
  refine callL_pure (σ' := σ) (v := .int .i64 (orI l)) Tryz.func34 rfl (by kernel_rfl) rfl rfl (by simp) ?_ rfl
  rw [z_body]
  simp only [loopOf, findLoop, regOf, Option.getD, envOf, List.range, List.range.loop, go_sem, Nat.reduceBEq, Nat.reduceEqDiff, Option.some.injEq, reduceCtorEq, Tryz.f34] at key0
  generalize l.map (AV.int .i64) = A at *
  simp only [Tryz.f34, go_sem, Nat.reduceBEq, Nat.reduceAdd, Nat.reduceSub, Nat.reduceEqDiff, Nat.reduceLeDiff, Nat.reduceMul, rgT, z_regionT, allocs, isv?, z_step, z_stepE, okDst, wantedA, evalOp, evalV, evalS, storeAt, look, ofV, ofC, putA, clearA, lookV, lookVs, lookParts, adrOk, baseAt, baseOf, loadAt, partA, binA, unA, resOf, mkRes, envOf, List.range, List.range.loop, evalBuiltin, liveW, regOf, startE, optN, mapGet, mapPut, orZero, keyOk, cellOk, decide_eq_true_eq, Bool.not_eq_true', decide_eq_false_iff_not, ite_not, not_true_eq_false, not_false_eq_true, reduceCtorEq, and_true, true_and, and_self, hll, key0]
  split
  · rename_i h; rw [h]
  · rfl

theorem c22_2 {σ : St} {base : Nat} {x y : Int} : callL Tryz.prog cfI 34 [.list true 1 [.int .i64 x, .int .i64 y]] σ base = some (.int .i64 (orI [x, y]), σ) := c22 (l := [x, y]) (by simp)
theorem c22_3 {σ : St} {base : Nat} {x y z : Int} : callL Tryz.prog cfI 34 [.list true 1 [.int .i64 x, .int .i64 y, .int .i64 z]] σ base = some (.int .i64 (orI [x, y, z]), σ) := c22 (l := [x, y, z]) (by simp)
theorem c22_4 {σ : St} {base : Nat} {x y z u : Int} : callL Tryz.prog cfI 34 [.list true 1 [.int .i64 x, .int .i64 y, .int .i64 z, .int .i64 u]] σ base = some (.int .i64 (orI [x, y, z, u]), σ) := c22 (l := [x, y, z, u]) (by simp)

set_option maxRecDepth 100000 in
set_option maxHeartbeats 4000000 in
theorem c59 {σ : St} {base : Nat} {a b : Int × Int × Int} : callL Tryz.prog cfI 74 [nodeA a, nodeA b] σ base = some (.int .i64 (cmpN a b), σ) := by
  refine callL_pure (σ' := σ) (v := .int .i64 (cmpN a b)) Tryz.func74 rfl (by kernel_rfl) rfl rfl (by simp) ?_ rfl
  rw [z_body]
  unfold nodeA cmpN
  simp only [Tryz.f74, go_sem, Nat.reduceBEq, Nat.reduceAdd, Nat.reduceSub, Nat.reduceEqDiff, Nat.reduceLeDiff, Nat.reduceMul, rgT, z_regionT, allocs, isv?, z_step, z_stepE, okDst, wantedA, evalOp, evalV, evalS, storeAt, look, ofV, ofC, putA, clearA, lookV, lookVs, lookParts, adrOk, baseAt, baseOf, loadAt, partA, binA, unA, resOf, mkRes, envOf, List.range, List.range.loop, evalBuiltin, liveW, regOf, startE, optN, mapGet, mapPut, orZero, keyOk, cellOk, decide_eq_true_eq, Bool.not_eq_true', decide_eq_false_iff_not, ite_not, not_true_eq_false, not_false_eq_true, reduceCtorEq, and_true, true_and, and_self, c23, c22_3]

set_option maxRecDepth 100000 in
set_option maxHeartbeats 4000000 in
theorem c62 {σ : St} {base : Nat} {a b : Int × Int × Int × Int} : callL Tryz.prog cfI 77 [edgeA a, edgeA b] σ base = some (.int .i64 (cmpE a b), σ) := by
  refine callL_pure (σ' := σ) (v := .int .i64 (cmpE a b)) Tryz.func77 rfl (by kernel_rfl) rfl rfl (by simp) ?_ rfl
  rw [z_body]
  unfold edgeA cmpE
  simp only [Tryz.f77, go_sem, Nat.reduceBEq, Nat.reduceAdd, Nat.reduceSub, Nat.reduceEqDiff, Nat.reduceLeDiff, Nat.reduceMul, rgT, z_regionT, allocs, isv?, z_step, z_stepE, okDst, wantedA, evalOp, evalV, evalS, storeAt, look, ofV, ofC, putA, clearA, lookV, lookVs, lookParts, adrOk, baseAt, baseOf, loadAt, partA, binA, unA, resOf, mkRes, envOf, List.range, List.range.loop, evalBuiltin, liveW, regOf, startE, optN, mapGet, mapPut, orZero, keyOk, cellOk, decide_eq_true_eq, Bool.not_eq_true', decide_eq_false_iff_not, ite_not, not_true_eq_false, not_false_eq_true, reduceCtorEq, and_true, true_and, and_self, c23, c22_4]

end Go.Can

namespace Go.Can
open Go Go.Proofs

def pairA (p : Int × Int) : AV := .agg [.int .i64 p.1, .int .i64 p.2]
def cmpP (a b : Int × Int) : Int := orI [cmpI a.1 b.1, cmpI a.2 b.2]
def ltP (a b : Int × Int) : Bool := decide (a.1 < b.1 ∨ a.1 = b.1 ∧ a.2 < b.2)
def ltN (a b : Int × Int × Int) : Bool := decide (a.1 < b.1 ∨ a.1 = b.1 ∧ (a.2.1 < b.2.1 ∨ a.2.1 = b.2.1 ∧ a.2.2 < b.2.2))
def ltE (a b : Int × Int × Int × Int) : Bool := decide (a.1 < b.1 ∨ a.1 = b.1 ∧ (a.2.1 < b.2.1 ∨ a.2.1 = b.2.1 ∧ (a.2.2.1 < b.2.2.1 ∨ a.2.2.1 = b.2.2.1 ∧ a.2.2.2 < b.2.2.2)))

theorem cmpP_ge {a b : Int × Int} : cmpP a b ≥ 0 ↔ ltP a b = false := by
  unfold cmpP ltP orI orI orI cmpI
  rw [decide_eq_false_iff_not]
  repeat' split
  all_goals omega
theorem cmpN_ge {a b : Int × Int × Int} : cmpN a b ≥ 0 ↔ ltN a b = false := by
  unfold cmpN ltN orI orI orI orI cmpI
  rw [decide_eq_false_iff_not]
  repeat' split
  all_goals omega
theorem cmpE_ge {a b : Int × Int × Int × Int} : cmpE a b ≥ 0 ↔ ltE a b = false := by
  unfold cmpE ltE orI orI orI orI orI cmpI
  rw [decide_eq_false_iff_not]
  repeat' split
  all_goals omega

set_option maxRecDepth 100000 in
set_option maxHeartbeats 4000000 in
theorem c40 {σ : St} {base : Nat} {a b : Int × Int × Int × Int} : callL Tryz.prog cfI 51 [edgeA a, edgeA b] σ base = some (.int .i64 (cmpI a.1 b.1), σ) := by
  refine callL_pure (σ' := σ) (v := .int .i64 (cmpI a.1 b.1)) Tryz.func51 rfl (by kernel_rfl) rfl rfl (by simp) ?_ rfl
  rw [z_body]
  unfold edgeA
  simp only [Tryz.f51, go_sem, Nat.reduceBEq, Nat.reduceAdd, Nat.reduceSub, Nat.reduceEqDiff, Nat.reduceLeDiff, Nat.reduceMul, rgT, z_regionT, allocs, isv?, z_step, z_stepE, okDst, wantedA, evalOp, evalV, evalS, storeAt, look, ofV, ofC, putA, clearA, lookV, lookVs, lookParts, adrOk, baseAt, baseOf, loadAt, partA, binA, unA, resOf, mkRes, envOf, List.range, List.range.loop, evalBuiltin, liveW, regOf, startE, optN, mapGet, mapPut, orZero, keyOk, cellOk, decide_eq_true_eq, Bool.not_eq_true', decide_eq_false_iff_not, ite_not, not_true_eq_false, not_false_eq_true, reduceCtorEq, and_true, true_and, and_self, c23]

set_option maxRecDepth 100000 in
set_option maxHeartbeats 4000000 in
theorem c118 {σ : St} {base : Nat} {a b : Int × Int × Int × Int} : callL Tryz.prog cfI 113 [edgeA a, edgeA b] σ base = some (.int .i64 (cmpI a.1 b.1), σ) := by
  refine callL_pure (σ' := σ) (v := .int .i64 (cmpI a.1 b.1)) Tryz.func113 rfl (by kernel_rfl) rfl rfl (by simp) ?_ rfl
  rw [z_body]
  unfold edgeA
  simp only [Tryz.f113, go_sem, Nat.reduceBEq, Nat.reduceAdd, Nat.reduceSub, Nat.reduceEqDiff, Nat.reduceLeDiff, Nat.reduceMul, rgT, z_regionT, allocs, isv?, z_step, z_stepE, okDst, wantedA, evalOp, evalV, evalS, storeAt, look, ofV, ofC, putA, clearA, lookV, lookVs, lookParts, adrOk, baseAt, baseOf, loadAt, partA, binA, unA, resOf, mkRes, envOf, List.range, List.range.loop, evalBuiltin, liveW, regOf, startE, optN, mapGet, mapPut, orZero, keyOk, cellOk, decide_eq_true_eq, Bool.not_eq_true', decide_eq_false_iff_not, ite_not, not_true_eq_false, not_false_eq_true, reduceCtorEq, and_true, true_and, and_self, c23]

set_option maxRecDepth 100000 in
set_option maxHeartbeats 4000000 in
theorem c45 {σ : St} {base : Nat} {a b : Int × Int} : callL Tryz.prog cfI 56 [pairA a, pairA b] σ base = some (.int .i64 (cmpP a b), σ) := by
  refine callL_pure (σ' := σ) (v := .int .i64 (cmpP a b)) Tryz.func56 rfl (by kernel_rfl) rfl rfl (by simp) ?_ rfl
  rw [z_body]
  unfold pairA cmpP
  simp only [Tryz.f56, go_sem, Nat.reduceBEq, Nat.reduceAdd, Nat.reduceSub, Nat.reduceEqDiff, Nat.reduceLeDiff, Nat.reduceMul, rgT, z_regionT, allocs, isv?, z_step, z_stepE, okDst, wantedA, evalOp, evalV, evalS, storeAt, look, ofV, ofC, putA, clearA, lookV, lookVs, lookParts, adrOk, baseAt, baseOf, loadAt, partA, binA, unA, resOf, mkRes, envOf, List.range, List.range.loop, evalBuiltin, liveW, regOf, startE, optN, mapGet, mapPut, orZero, keyOk, cellOk, decide_eq_true_eq, Bool.not_eq_true', decide_eq_false_iff_not, ite_not, not_true_eq_false, not_false_eq_true, reduceCtorEq, and_true, true_and, and_self, c23, c22_2]

set_option maxRecDepth 100000 in
set_option maxHeartbeats 4000000 in
theorem c64 {σ : St} {base : Nat} {a b : Int × Int × Int} : callL Tryz.prog cfI 82 [nodeA a, nodeA b] σ base = some (.bool (ltN a b), σ) := by
  refine callL_pure (σ' := σ) (v := .bool (ltN a b)) Tryz.func82 rfl (by kernel_rfl) rfl rfl (by simp) ?_ rfl
  rw [z_body]
  unfold nodeA ltN
  simp only [Tryz.f82, go_sem, Nat.reduceBEq, Nat.reduceAdd, Nat.reduceSub, Nat.reduceEqDiff, Nat.reduceLeDiff, Nat.reduceMul, rgT, z_regionT, allocs, isv?, z_step, z_stepE, okDst, wantedA, evalOp, evalV, evalS, storeAt, look, ofV, ofC, putA, clearA, lookV, lookVs, lookParts, adrOk, baseAt, baseOf, loadAt, partA, binA, unA, resOf, mkRes, envOf, List.range, List.range.loop, evalBuiltin, liveW, regOf, startE, optN, mapGet, mapPut, orZero, keyOk, cellOk, decide_eq_true_eq, Bool.not_eq_true', decide_eq_false_iff_not, ite_not, not_true_eq_false, not_false_eq_true, reduceCtorEq, and_true, true_and, and_self]
  (repeat' split) <;> simp_all <;> omega

set_option maxRecDepth 100000 in
set_option maxHeartbeats 4000000 in
theorem c48 {σ : St} {base : Nat} {a b : Int × Int × Int × Int} : callL Tryz.prog cfI 64 [edgeA a, edgeA b] σ base = some (.bool (ltE a b), σ) := by
  refine callL_pure (σ' := σ) (v := .bool (ltE a b)) Tryz.func64 rfl (by kernel_rfl) rfl rfl (by simp) ?_ rfl
  rw [z_body]
  unfold edgeA ltE
  simp only [Tryz.f64, go_sem, Nat.reduceBEq, Nat.reduceAdd, Nat.reduceSub, Nat.reduceEqDiff, Nat.reduceLeDiff, Nat.reduceMul, rgT, z_regionT, allocs, isv?, z_step, z_stepE, okDst, wantedA, evalOp, evalV, evalS, storeAt, look, ofV, ofC, putA, clearA, lookV, lookVs, lookParts, adrOk, baseAt, baseOf, loadAt, partA, binA, unA, resOf, mkRes, envOf, List.range, List.range.loop, evalBuiltin, liveW, regOf, startE, optN, mapGet, mapPut, orZero, keyOk, cellOk, decide_eq_true_eq, Bool.not_eq_true', decide_eq_false_iff_not, ite_not, not_true_eq_false, not_false_eq_true, reduceCtorEq, and_true, true_and, and_self]
  (repeat' split) <;> simp_all <;> omega

set_option maxRecDepth 100000 in
set_option maxHeartbeats 4000000 in
theorem c25 {σ : St} {base : Nat} {a b : Int × Int} : callL Tryz.prog cfI 40 [pairA a, pairA b] σ base = some (.bool (ltP a b), σ) := by
  refine callL_pure (σ' := σ) (v := .bool (ltP a b)) Tryz.func40 rfl (by kernel_rfl) rfl rfl (by simp) ?_ rfl
  rw [z_body]
  unfold pairA ltP
  simp only [Tryz.f40, go_sem, Nat.reduceBEq, Nat.reduceAdd, Nat.reduceSub, Nat.reduceEqDiff, Nat.reduceLeDiff, Nat.reduceMul, rgT, z_regionT, allocs, isv?, z_step, z_stepE, okDst, wantedA, evalOp, evalV, evalS, storeAt, look, ofV, ofC, putA, clearA, lookV, lookVs, lookParts, adrOk, baseAt, baseOf, loadAt, partA, binA, unA, resOf, mkRes, envOf, List.range, List.range.loop, evalBuiltin, liveW, regOf, startE, optN, mapGet, mapPut, orZero, keyOk, cellOk, decide_eq_true_eq, Bool.not_eq_true', decide_eq_false_iff_not, ite_not, not_true_eq_false, not_false_eq_true, reduceCtorEq, and_true, true_and, and_self]
  (repeat' split) <;> simp_all <;> omega

set_option maxRecDepth 100000 in
set_option maxHeartbeats 4000000 in
theorem c34 {σ : St} {base : Nat} {a b : Int × Int} : callL Tryz.prog cfI 67 [pairA a, pairA b] σ base = some (.bool (ltP a b), σ) := by
  refine callL_pure (σ' := σ) (v := .bool (ltP a b)) Tryz.func67 rfl (by kernel_rfl) rfl rfl (by simp) ?_ rfl
  rw [z_body]
  unfold pairA ltP
  simp only [Tryz.f67, go_sem, Nat.reduceBEq, Nat.reduceAdd, Nat.reduceSub, Nat.reduceEqDiff, Nat.reduceLeDiff, Nat.reduceMul, rgT, z_regionT, allocs, isv?, z_step, z_stepE, okDst, wantedA, evalOp, evalV, evalS, storeAt, look, ofV, ofC, putA, clearA, lookV, lookVs, lookParts, adrOk, baseAt, baseOf, loadAt, partA, binA, unA, resOf, mkRes, envOf, List.range, List.range.loop, evalBuiltin, liveW, regOf, startE, optN, mapGet, mapPut, orZero, keyOk, cellOk, decide_eq_true_eq, Bool.not_eq_true', decide_eq_false_iff_not, ite_not, not_true_eq_false, not_false_eq_true, reduceCtorEq, and_true, true_and, and_self]
  (repeat' split) <;> simp_all <;> omega

/-- Both facts of a pair are in range. -/
def inR (p : Int × Int) (n : Int) : Bool := decide (0 ≤ p.1 ∧ p.1 < n ∧ 0 ≤ p.2 ∧ p.2 < n)

set_option maxRecDepth 100000 in
set_option maxHeartbeats 4000000 in
theorem c33 {σ : St} {base : Nat} {a : Int × Int} {n : Int} : callL Tryz.prog cfI 66 [pairA a, .int .i64 n] σ base = some (.bool (inR a n), σ) := by
  refine callL_pure (σ' := σ) (v := .bool (inR a n)) Tryz.func66 rfl (by kernel_rfl) rfl rfl (by simp) ?_ rfl
  rw [z_body]
  unfold pairA inR
  simp only [Tryz.f66, go_sem, Nat.reduceBEq, Nat.reduceAdd, Nat.reduceSub, Nat.reduceEqDiff, Nat.reduceLeDiff, Nat.reduceMul, rgT, z_regionT, allocs, isv?, z_step, z_stepE, okDst, wantedA, evalOp, evalV, evalS, storeAt, look, ofV, ofC, putA, clearA, lookV, lookVs, lookParts, adrOk, baseAt, baseOf, loadAt, partA, binA, unA, resOf, mkRes, envOf, List.range, List.range.loop, evalBuiltin, liveW, regOf, startE, optN, mapGet, mapPut, orZero, keyOk, cellOk, decide_eq_true_eq, Bool.not_eq_true', decide_eq_false_iff_not, ite_not, not_true_eq_false, not_false_eq_true, reduceCtorEq, and_true, true_and, and_self]
  (repeat' split) <;> simp_all <;> omega

set_option maxRecDepth 100000 in
set_option maxHeartbeats 4000000 in
theorem c43 {σ : St} {base : Nat} {n : Int} : callL Tryz.prog cfI 54 [.int .i64 n] σ base = some (.bool (decide (1 ≤ n ∧ n ≤ 1024)), σ) := by
  refine callL_pure (σ' := σ) (v := .bool (decide (1 ≤ n ∧ n ≤ 1024))) Tryz.func54 rfl (by kernel_rfl) rfl rfl (by simp) ?_ rfl
  rw [z_body]
  simp only [Tryz.f54, go_sem, Nat.reduceBEq, Nat.reduceAdd, Nat.reduceSub, Nat.reduceEqDiff, Nat.reduceLeDiff, Nat.reduceMul, rgT, z_regionT, allocs, isv?, z_step, z_stepE, okDst, wantedA, evalOp, evalV, evalS, storeAt, look, ofV, ofC, putA, clearA, lookV, lookVs, lookParts, adrOk, baseAt, baseOf, loadAt, partA, binA, unA, resOf, mkRes, envOf, List.range, List.range.loop, evalBuiltin, liveW, regOf, startE, optN, mapGet, mapPut, orZero, keyOk, cellOk, decide_eq_true_eq, Bool.not_eq_true', decide_eq_false_iff_not, ite_not, not_true_eq_false, not_false_eq_true, reduceCtorEq, and_true, true_and, and_self]
  (repeat' split) <;> simp_all <;> omega

set_option maxRecDepth 100000 in
set_option maxHeartbeats 4000000 in
theorem c44 {σ : St} {base : Nat} {d n : Int} : callL Tryz.prog cfI 55 [.int .i64 d, .int .i64 n] σ base = some (.bool (decide (0 ≤ d ∧ d < n)), σ) := by
  refine callL_pure (σ' := σ) (v := .bool (decide (0 ≤ d ∧ d < n))) Tryz.func55 rfl (by kernel_rfl) rfl rfl (by simp) ?_ rfl
  rw [z_body]
  simp only [Tryz.f55, go_sem, Nat.reduceBEq, Nat.reduceAdd, Nat.reduceSub, Nat.reduceEqDiff, Nat.reduceLeDiff, Nat.reduceMul, rgT, z_regionT, allocs, isv?, z_step, z_stepE, okDst, wantedA, evalOp, evalV, evalS, storeAt, look, ofV, ofC, putA, clearA, lookV, lookVs, lookParts, adrOk, baseAt, baseOf, loadAt, partA, binA, unA, resOf, mkRes, envOf, List.range, List.range.loop, evalBuiltin, liveW, regOf, startE, optN, mapGet, mapPut, orZero, keyOk, cellOk, decide_eq_true_eq, Bool.not_eq_true', decide_eq_false_iff_not, ite_not, not_true_eq_false, not_false_eq_true, reduceCtorEq, and_true, true_and, and_self]
  (repeat' split) <;> simp_all <;> omega

end Go.Can
