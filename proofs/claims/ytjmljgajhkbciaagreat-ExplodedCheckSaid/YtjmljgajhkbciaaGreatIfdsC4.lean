/- Contracts: does an edge fit its kind? The reference's answer. Contracts: does an edge fit its kind? The program's answer. -/
import Derived.Test.YtjmljgajhkbciaaGreatIfdsC3
set_option linter.unusedSimpArgs false
set_option linter.unusedVariables false
namespace Go.Can
open Go Go.Proofs

def nd (ns : List (Int × Int × Int)) (i : Int) : Int × Int × Int := ns.getD i.toNat (0, 0, 0)
theorem nd_at {ns : List (Int × Int × Int)} {i : Int} (h : 0 ≤ i ∧ i < ns.length) : (ns.map nodeA)[i.toNat]? = some (nodeA (nd ns i)) := by
  have : i.toNat < ns.length := by omega
  rw [n_at, if_pos this]; rfl

/-- An edge fits its kind; 'en' tells which node calls which function. -/
def fitsB (ns : List (Int × Int × Int)) (en : Int → Int → Bool) (e : Int × Int × Int × Int) : Bool :=
  if e.2.2.1 = 1 ∨ e.2.2.1 = 5 then decide ((nd ns e.1).1 = (nd ns e.2.1).1 ∧ (nd ns e.1).2.1 ≠ 3 ∧ (nd ns e.1).2.1 ≠ 4 ∧ (nd ns e.2.1).2.1 ≠ 1 ∧ (e.2.2.1 = 1 ∨ (nd ns e.1).2.1 = 2))
  else if e.2.2.1 = 2 then decide ((nd ns e.1).2.1 = 2 ∧ e.2.2.2 = e.1 ∧ (nd ns e.2.1).2.1 = 1)
  else decide ((nd ns e.1).2.1 = (if e.2.2.1 = 4 then 4 else 3) ∧ (nd ns e.2.2.2).2.1 = 2 ∧ (nd ns e.2.1).1 = (nd ns e.2.2.2).1 ∧ (nd ns e.2.1).2.1 ≠ 1) && en e.2.2.2 (nd ns e.1).1

/-- The numbers of an edge are in range. -/
structure EdgeOk (ns : List (Int × Int × Int)) (e : Int × Int × Int × Int) : Prop where
  from_ : 0 ≤ e.1 ∧ e.1 < ns.length
  to : 0 ≤ e.2.1 ∧ e.2.1 < ns.length
  kind : 1 ≤ e.2.2.1 ∧ e.2.2.1 ≤ 5
  call : ¬ (e.2.2.1 = 1 ∨ e.2.2.1 = 5) → 0 ≤ e.2.2.2 ∧ e.2.2.2 < ns.length

set_option maxRecDepth 100000 in
set_option maxHeartbeats 8000000 in
theorem c49 {σ : St} {base : Nat} {nv ev : AV} {ns : List (Int × Int × Int)} {e : Int × Int × Int × Int} {m : Int} {en : Int → Int → Bool} (hs : Sl σ 3 nv (ns.map nodeA)) (he : (Slot.val ev).v = some ev) (hok : EdgeOk ns e)
    (hen : ∀ b c f, callL Tryz.prog cfI 85 [.agg [nv, ev, .int .i64 m], .int .i64 c, .int .i64 f] σ b = some (.bool (en c f), σ)) :
    callL Tryz.prog cfI 65 [.agg [nv, ev, .int .i64 m], edgeA e] σ base = some (.bool (fitsB ns en e), σ) := by
  have hl := hs.len
  have hv := hs.v
  have hel0 := hs.el
  rw [List.length_map] at hl
  obtain ⟨h1, h2, h3, h4⟩ := hok
  obtain ⟨e1, e2, e3, e4⟩ := e
  simp only at h1 h2 h3 h4
  have n1 := nd_at h1
  have n2 := nd_at h2
  refine callL_pure (σ' := σ) (v := .bool (fitsB ns en (e1, e2, e3, e4))) Tryz.func65 rfl (by kernel_rfl) rfl rfl (by simp) ?_ rfl
  rw [z_body]
  unfold edgeA fitsB
  simp only
  by_cases k1 : e3 = 1 ∨ e3 = 5
  · generalize nd ns e1 = x at *
    generalize nd ns e2 = y at *
    obtain ⟨x1, x2, x3⟩ := x
    obtain ⟨y1, y2, y3⟩ := y
    unfold nodeA at n1 n2 hel0
    generalize List.map _ ns = B at *
    simp (config := { maxSteps := 4000000 }) only [Tryz.f65, go_sem, Nat.reduceBEq, Nat.reduceAdd, Nat.reduceSub, Nat.reduceEqDiff, Nat.reduceLeDiff, Nat.reduceMul, rgT, z_regionT, allocs, isv?, z_step, z_stepE, okDst, wantedA, evalOp, evalV, evalS, storeAt, look, ofV, ofC, putA, clearA, lookV, lookVs, lookParts, adrOk, baseAt, baseOf, loadAt, partA, binA, unA, resOf, mkRes, envOf, List.range, List.range.loop, evalBuiltin, liveW, regOf, startE, optN, mapGet, mapPut, orZero, keyOk, cellOk, decide_eq_true_eq, Bool.not_eq_true', decide_eq_false_iff_not, ite_not, not_true_eq_false, not_false_eq_true, reduceCtorEq, and_true, true_and, and_self, hl, hv, he, hel0, n1, n2, h1, h2]
    clear hen n1 n2 hel0 hl hv he
    (repeat' split) <;> simp_all <;> omega
  · have n3 := nd_at (h4 k1)
    have h4' := h4 k1
    rw [if_neg k1]
    generalize nd ns e1 = x at *
    generalize nd ns e2 = y at *
    generalize nd ns e4 = z at *
    obtain ⟨x1, x2, x3⟩ := x
    obtain ⟨y1, y2, y3⟩ := y
    obtain ⟨z1, z2, z3⟩ := z
    unfold nodeA at n1 n2 n3 hel0
    generalize List.map _ ns = B at *
    have k2 : ¬ e3 = 1 := fun h => k1 (.inl h)
    have k3 : ¬ e3 = 5 := fun h => k1 (.inr h)
    simp (config := { maxSteps := 4000000 }) only [Tryz.f65, go_sem, Nat.reduceBEq, Nat.reduceAdd, Nat.reduceSub, Nat.reduceEqDiff, Nat.reduceLeDiff, Nat.reduceMul, rgT, z_regionT, allocs, isv?, z_step, z_stepE, okDst, wantedA, evalOp, evalV, evalS, storeAt, look, ofV, ofC, putA, clearA, lookV, lookVs, lookParts, adrOk, baseAt, baseOf, loadAt, partA, binA, unA, resOf, mkRes, envOf, List.range, List.range.loop, evalBuiltin, liveW, regOf, startE, optN, mapGet, mapPut, orZero, keyOk, cellOk, decide_eq_true_eq, Bool.not_eq_true', decide_eq_false_iff_not, ite_not, not_true_eq_false, not_false_eq_true, reduceCtorEq, and_true, true_and, and_self, hl, hv, he, hel0, n1, n2, n3, h1, h2, h4', k2, k3, hen]
    clear hen n1 n2 n3 hel0 hl hv he
    generalize en e4 x1 = q
    cases q <;> (repeat' split) <;> simp_all <;> omega

end Go.Can

namespace Go.Can
open Go Go.Proofs

set_option maxRecDepth 100000 in
set_option maxHeartbeats 8000000 in
theorem c63 {σ : St} {base : Nat} {nv ev : AV} {ns : List (Int × Int × Int)} {e : Int × Int × Int × Int} {m : Int} {en : Int → Int → Bool} (hs : Sl σ 3 nv (ns.map nodeA)) (he : (Slot.val ev).v = some ev) (hok : EdgeOk ns e)
    (hen : ∀ b c f, callL Tryz.prog cfI 97 [.agg [nv, ev, .int .i64 m], .int .i64 c, .int .i64 f] σ b = some (.bool (en c f), σ)) :
    callL Tryz.prog cfI 78 [.agg [nv, ev, .int .i64 m], edgeA e] σ base = some (.bool (fitsB ns en e), σ) := by
  have hl := hs.len
  have hv := hs.v
  have hel0 := hs.el
  rw [List.length_map] at hl
  obtain ⟨h1, h2, h3, h4⟩ := hok
  obtain ⟨e1, e2, e3, e4⟩ := e
  simp only at h1 h2 h3 h4
  have n1 := nd_at h1
  have n2 := nd_at h2
  refine callL_pure (σ' := σ) (v := .bool (fitsB ns en (e1, e2, e3, e4))) Tryz.func78 rfl (by kernel_rfl) rfl rfl (by simp) ?_ rfl
  rw [z_body]
  unfold edgeA fitsB
  simp only
  by_cases k1 : e3 = 1 ∨ e3 = 5
  · generalize nd ns e1 = x at *
    generalize nd ns e2 = y at *
    obtain ⟨x1, x2, x3⟩ := x
    obtain ⟨y1, y2, y3⟩ := y
    unfold nodeA at n1 n2 hel0
    generalize List.map _ ns = B at *
    simp (config := { maxSteps := 4000000 }) only [Tryz.f78, go_sem, Nat.reduceBEq, Nat.reduceAdd, Nat.reduceSub, Nat.reduceEqDiff, Nat.reduceLeDiff, Nat.reduceMul, rgT, z_regionT, allocs, isv?, z_step, z_stepE, okDst, wantedA, evalOp, evalV, evalS, storeAt, look, ofV, ofC, putA, clearA, lookV, lookVs, lookParts, adrOk, baseAt, baseOf, loadAt, partA, binA, unA, resOf, mkRes, envOf, List.range, List.range.loop, evalBuiltin, liveW, regOf, startE, optN, mapGet, mapPut, orZero, keyOk, cellOk, decide_eq_true_eq, Bool.not_eq_true', decide_eq_false_iff_not, ite_not, not_true_eq_false, not_false_eq_true, reduceCtorEq, and_true, true_and, and_self, hl, hv, he, hel0, n1, n2, h1, h2]
    clear hen n1 n2 hel0 hl hv he
    (repeat' split) <;> simp_all <;> omega
  · have n3 := nd_at (h4 k1)
    have h4' := h4 k1
    rw [if_neg k1]
    generalize nd ns e1 = x at *
    generalize nd ns e2 = y at *
    generalize nd ns e4 = z at *
    obtain ⟨x1, x2, x3⟩ := x
    obtain ⟨y1, y2, y3⟩ := y
    obtain ⟨z1, z2, z3⟩ := z
    unfold nodeA at n1 n2 n3 hel0
    generalize List.map _ ns = B at *
    have k2 : ¬ e3 = 1 := fun h => k1 (.inl h)
    have k3 : ¬ e3 = 5 := fun h => k1 (.inr h)
    simp (config := { maxSteps := 4000000 }) only [Tryz.f78, go_sem, Nat.reduceBEq, Nat.reduceAdd, Nat.reduceSub, Nat.reduceEqDiff, Nat.reduceLeDiff, Nat.reduceMul, rgT, z_regionT, allocs, isv?, z_step, z_stepE, okDst, wantedA, evalOp, evalV, evalS, storeAt, look, ofV, ofC, putA, clearA, lookV, lookVs, lookParts, adrOk, baseAt, baseOf, loadAt, partA, binA, unA, resOf, mkRes, envOf, List.range, List.range.loop, evalBuiltin, liveW, regOf, startE, optN, mapGet, mapPut, orZero, keyOk, cellOk, decide_eq_true_eq, Bool.not_eq_true', decide_eq_false_iff_not, ite_not, not_true_eq_false, not_false_eq_true, reduceCtorEq, and_true, true_and, and_self, hl, hv, he, hel0, n1, n2, n3, h1, h2, h4', k2, k3, hen]
    clear hen n1 n2 n3 hel0 hl hv he
    generalize en e4 x1 = q
    cases q <;> (repeat' split) <;> simp_all <;> omega

end Go.Can
