/- Contracts: are the edges sorted? A copy of the edges; the edges of an unsorted graph. -/
import Derived.Test.YtjmljgajhkbciaaGreatIfdsC7
import Derived.Test.YtjmljgajhkbciaaGreatIfdsD
set_option linter.unusedSimpArgs false
set_option linter.unusedVariables false
namespace Go.Can
open Go Go.Proofs

theorem callL_prim {P : Program} {cf : Cfg} {f : FuncId} {p : List AV → St → Nat → Option (AV × St)} {args : List AV} {σ : St} {base : Nat} {r : AV × St} (hp : cf.prim f = some p) (h : p args σ base = some r) : callL P cf f args σ base = some r := by
  refine callL_intro ?_
  unfold enterA
  rw [hp]
  exact h

theorem c40' {σ : St} {base : Nat} {a1 a2 a3 a4 b1 b2 b3 b4 : Int} : callL Tryz.prog cfI 51 [.agg [.int .i64 a1, .int .i64 a2, .int .i64 a3, .int .i64 a4], .agg [.int .i64 b1, .int .i64 b2, .int .i64 b3, .int .i64 b4]] σ base = some (.int .i64 (cmpI a1 b1), σ) := c40 (a := (a1, a2, a3, a4)) (b := (b1, b2, b3, b4))

/-- No edge up to this one is followed by one that leaves an earlier node. -/
def asc (es : List ED) : Nat → Bool
  | 0 => true
  | k + 1 => if (eAt es (k + 1)).1 < (eAt es k).1 then false else asc es k

theorem asc_le {es : List ED} : ∀ {n : Nat}, asc es n = true → ∀ k, k < n → (eAt es k).1 ≤ (eAt es (k + 1)).1
  | 0, _, k, hk => by omega
  | n + 1, h, k, hk => by
    unfold asc at h
    split at h
    · cases h
    · rename_i h0
      rcases Nat.lt_or_eq_of_le (Nat.le_of_lt_succ hk) with h1 | h1
      · exact asc_le h k h1
      · subst h1; omega

theorem asc_srt {es : List ED} (h : asc es (es.length - 1) = true) : Srt es := by
  have hk := asc_le h
  unfold Srt
  rw [List.pairwise_iff_getElem]
  have key : ∀ d i, i + d + 1 < es.length → (eAt es i).1 ≤ (eAt es (i + d + 1)).1 := by
    intro d
    induction d with
    | zero => intro i hi; exact hk i (by omega)
    | succ d ih =>
      intro i hi
      have h1 := ih i (by omega)
      have h2 := hk (i + d + 1) (by omega)
      have e : i + (d + 1) + 1 = i + d + 1 + 1 := by omega
      rw [e]
      omega
  intro i j hi hj hij
  have := key (j - i - 1) i (by omega)
  have e : i + (j - i - 1) + 1 = j := by omega
  rw [e] at this
  simpa [eAt, hi, hj] using this

set_option maxRecDepth 100000 in
set_option maxHeartbeats 4000000 in
theorem c39 {σ : St} {base : Nat} {ev : AV} {es : List ED} (he : Sl σ 4 ev (es.map edgeA)) (hlen : es.length < 2^62) :
    callL Tryz.prog cfI 50 [ev, .fn 51 [] []] σ base = some (.bool (asc es (es.length - 1)), σ) := by
  have hl := he.len
  have hv := he.v
  have hel0 := he.el
  rw [List.length_map] at hl
  have key : ∀ (i : Nat), i < es.length → loopM Tryz.prog cfI 50 σ.length (loopOf Tryz.f50 2) (envS 25 [(0, .val ev), (1, .val (.fn 51 [] [])), (5, .val (.int .i64 i))], σ) =
     if asc es i = true then some (.exit 0, envS 25 [], σ) else some (.ret, envS 25 [(4, .val (.bool false))], σ) := by
    intro i
    induction i with
    | zero =>
      intro hi
      have hi' : ¬ ((0 : Int) < ((0 : Nat) : Int)) := by omega
      rw [loopM_step (by kernel_rfl)]
      simp only [loopOf, findLoop, regOf, Option.getD, envOf, List.range, List.range.loop, go_sem, Nat.reduceBEq, Nat.reduceEqDiff, Option.some.injEq, reduceCtorEq, envS, Tryz.f50]
      simp only [go_sem, Nat.reduceBEq, Nat.reduceAdd, Nat.reduceSub, Nat.reduceEqDiff, Nat.reduceLeDiff, Nat.reduceMul, rgT, z_regionT, allocs, isv?, z_step, z_stepE, okDst, wantedA, evalOp, evalV, evalS, storeAt, look, ofV, ofC, putA, clearA, lookV, lookVs, lookParts, adrOk, baseAt, baseOf, loadAt, partA, binA, unA, resOf, mkRes, envOf, List.range, List.range.loop, evalBuiltin, liveW, regOf, startE, optN, mapGet, mapPut, orZero, keyOk, cellOk, decide_eq_true_eq, Bool.not_eq_true', decide_eq_false_iff_not, ite_not, not_true_eq_false, not_false_eq_true, reduceCtorEq, and_true, true_and, and_self, envS, hi', gt_iff_lt, asc, if_true]
    | succ i ih =>
      intro hi
      obtain ⟨⟨y1, y2, y3, y4⟩, _, hel, hy⟩ := drop_at edgeA hi
      obtain ⟨⟨q1, q2, q3, q4⟩, _, hqel, hq⟩ := drop_at edgeA (show i < es.length by omega)
      have hi' : (0 : Int) < ((i + 1 : Nat) : Int) := by omega
      have h1 : (0 : Int) ≤ ((i + 1 : Nat) : Int) := by omega
      have h2 : ((i + 1 : Nat) : Int) < (es.length : Int) := by omega
      have h3 : (0 : Int) ≤ (i : Int) := by omega
      have h4 : (i : Int) < (es.length : Int) := by omega
      have hw : IntKind.i64.wrap (((i + 1 : Nat) : Int) - 1) = ((i : Nat) : Int) := by rw [wrap_i64] <;> omega
      have ih' := ih (by omega)
      have e1 : eAt es (i + 1) = (y1, y2, y3, y4) := by unfold eAt; rw [List.getD_eq_getElem?_getD, hy]; rfl
      have e2 : eAt es i = (q1, q2, q3, q4) := by unfold eAt; rw [List.getD_eq_getElem?_getD, hq]; rfl
      rw [loopM_step (by kernel_rfl)]
      simp only [loopOf, findLoop, regOf, Option.getD, envOf, List.range, List.range.loop, go_sem, Nat.reduceBEq, Nat.reduceEqDiff, Option.some.injEq, reduceCtorEq, envS, Tryz.f50] at ih' ⊢
      replace hel : (es.map edgeA)[i + 1]? = some (.agg [.int .i64 y1, .int .i64 y2, .int .i64 y3, .int .i64 y4]) := hel
      replace hqel : (es.map edgeA)[i]? = some (.agg [.int .i64 q1, .int .i64 q2, .int .i64 q3, .int .i64 q4]) := hqel
      unfold asc
      rw [e1, e2]
      generalize es.map edgeA = A at *
      by_cases hc : y1 < q1
      · have hcc := cmpI_lt hc
        simp only [go_sem, Nat.reduceBEq, Nat.reduceAdd, Nat.reduceSub, Nat.reduceEqDiff, Nat.reduceLeDiff, Nat.reduceMul, rgT, z_regionT, allocs, isv?, z_step, z_stepE, okDst, wantedA, evalOp, evalV, evalS, storeAt, look, ofV, ofC, putA, clearA, lookV, lookVs, lookParts, adrOk, baseAt, baseOf, loadAt, partA, binA, unA, resOf, mkRes, envOf, List.range, List.range.loop, evalBuiltin, liveW, regOf, startE, optN, mapGet, mapPut, orZero, keyOk, cellOk, decide_eq_true_eq, Bool.not_eq_true', decide_eq_false_iff_not, ite_not, not_true_eq_false, not_false_eq_true, reduceCtorEq, and_true, true_and, and_self, envS, gt_iff_lt, hl, hv, hel0, hi', h1, h2, h3, h4, hw, hel, hqel, c40', hcc, hc, if_true, Bool.false_eq_true, if_false]
      · have hcc := cmpI_ge hc
        simp only [go_sem, Nat.reduceBEq, Nat.reduceAdd, Nat.reduceSub, Nat.reduceEqDiff, Nat.reduceLeDiff, Nat.reduceMul, rgT, z_regionT, allocs, isv?, z_step, z_stepE, okDst, wantedA, evalOp, evalV, evalS, storeAt, look, ofV, ofC, putA, clearA, lookV, lookVs, lookParts, adrOk, baseAt, baseOf, loadAt, partA, binA, unA, resOf, mkRes, envOf, List.range, List.range.loop, evalBuiltin, liveW, regOf, startE, optN, mapGet, mapPut, orZero, keyOk, cellOk, decide_eq_true_eq, Bool.not_eq_true', decide_eq_false_iff_not, ite_not, not_true_eq_false, not_false_eq_true, reduceCtorEq, and_true, true_and, and_self, envS, gt_iff_lt, hl, hv, hel0, hi', h1, h2, h3, h4, hw, hel, hqel, c40', hcc, hc, ih', if_false]
  refine callL_pure (σ' := σ) (v := .bool (asc es (es.length - 1))) Tryz.func50 rfl (by kernel_rfl) rfl rfl (by simp) ?_ rfl
  rw [z_body]
  by_cases hz : es.length = 0
  · have hw : IntKind.i64.wrap ((es.length : Int) - 1) = -1 := by rw [wrap_i64] <;> omega
    have hlp : loopM Tryz.prog cfI 50 σ.length (loopOf Tryz.f50 2) (envS 25 [(0, .val ev), (1, .val (.fn 51 [] [])), (5, .val (.int .i64 (-1)))], σ) = some (.exit 0, envS 25 [], σ) := by
      have hi' : ¬ ((0 : Int) < -1) := by omega
      rw [loopM_step (by kernel_rfl)]
      simp only [loopOf, findLoop, regOf, Option.getD, envOf, List.range, List.range.loop, go_sem, Nat.reduceBEq, Nat.reduceEqDiff, Option.some.injEq, reduceCtorEq, envS, Tryz.f50]
      simp only [go_sem, Nat.reduceBEq, Nat.reduceAdd, Nat.reduceSub, Nat.reduceEqDiff, Nat.reduceLeDiff, Nat.reduceMul, rgT, z_regionT, allocs, isv?, z_step, z_stepE, okDst, wantedA, evalOp, evalV, evalS, storeAt, look, ofV, ofC, putA, clearA, lookV, lookVs, lookParts, adrOk, baseAt, baseOf, loadAt, partA, binA, unA, resOf, mkRes, envOf, List.range, List.range.loop, evalBuiltin, liveW, regOf, startE, optN, mapGet, mapPut, orZero, keyOk, cellOk, decide_eq_true_eq, Bool.not_eq_true', decide_eq_false_iff_not, ite_not, not_true_eq_false, not_false_eq_true, reduceCtorEq, and_true, true_and, and_self, envS, hi', gt_iff_lt]
    have ha : asc es (es.length - 1) = true := by rw [hz]; rfl
    rw [ha]
    simp only [loopOf, findLoop, regOf, Option.getD, envOf, List.range, List.range.loop, go_sem, Nat.reduceBEq, Nat.reduceEqDiff, Option.some.injEq, reduceCtorEq, envS, Tryz.f50] at hlp
    simp only [Tryz.f50, go_sem, Nat.reduceBEq, Nat.reduceAdd, Nat.reduceSub, Nat.reduceEqDiff, Nat.reduceLeDiff, Nat.reduceMul, rgT, z_regionT, allocs, isv?, z_step, z_stepE, okDst, wantedA, evalOp, evalV, evalS, storeAt, look, ofV, ofC, putA, clearA, lookV, lookVs, lookParts, adrOk, baseAt, baseOf, loadAt, partA, binA, unA, resOf, mkRes, envOf, List.range, List.range.loop, evalBuiltin, liveW, regOf, startE, optN, mapGet, mapPut, orZero, keyOk, cellOk, decide_eq_true_eq, Bool.not_eq_true', decide_eq_false_iff_not, ite_not, not_true_eq_false, not_false_eq_true, reduceCtorEq, and_true, true_and, and_self, hl, hv, hw, hlp]
  · have key0 := key (es.length - 1) (by omega)
    have hw : IntKind.i64.wrap ((es.length : Int) - 1) = ((es.length - 1 : Nat) : Int) := by rw [wrap_i64] <;> omega
    simp only [loopOf, findLoop, regOf, Option.getD, envOf, List.range, List.range.loop, go_sem, Nat.reduceBEq, Nat.reduceEqDiff, Option.some.injEq, reduceCtorEq, envS, Tryz.f50] at key0
    generalize asc es (es.length - 1) = t at *
    generalize es.length - 1 = k at *
    cases t <;> simp only [Tryz.f50, go_sem, Nat.reduceBEq, Nat.reduceAdd, Nat.reduceSub, Nat.reduceEqDiff, Nat.reduceLeDiff, Nat.reduceMul, rgT, z_regionT, allocs, isv?, z_step, z_stepE, okDst, wantedA, evalOp, evalV, evalS, storeAt, look, ofV, ofC, putA, clearA, lookV, lookVs, lookParts, adrOk, baseAt, baseOf, loadAt, partA, binA, unA, resOf, mkRes, envOf, List.range, List.range.loop, evalBuiltin, liveW, regOf, startE, optN, mapGet, mapPut, orZero, keyOk, cellOk, decide_eq_true_eq, Bool.not_eq_true', decide_eq_false_iff_not, ite_not, not_true_eq_false, not_false_eq_true, reduceCtorEq, and_true, true_and, and_self, hl, hv, hw, key0, if_true, Bool.false_eq_true, if_false]

/-! A copy of the edges. -/
set_option maxRecDepth 100000 in
set_option maxHeartbeats 4000000 in
theorem c60 {σ : St} {base : Nat} {fl : Bool} {e : ED} {es : List ED} (hlen : (e :: es).length ≤ 32768) :
    callL Tryz.prog cfI 75 [.list fl 4 ((e :: es).map edgeA)] σ base = some (.row 4 σ.length (e :: es).length 0 (e :: es).length false, σ ++ [.row 4 ((e :: es).map edgeA)]) := by
  have hll : ((e :: es).map edgeA).length = (e :: es).length := by simp
  have ha : ∀ bytes, bytes = 32 → appendTo σ.length σ 4 bytes (.list true 4 []) ((e :: es).map edgeA) = some (.row 4 σ.length (e :: es).length 0 (e :: es).length false, σ ++ [.row 4 ((e :: es).map edgeA)]) := by
    intro bytes hb
    rw [append_fresh (by rw [hll, hb]; omega) (by omega), hll]
  have hnil : nilEq Tryz.prog .eql 23 (.const (.slice none 0 0)) (.list fl 4 ((e :: es).map edgeA)) = true := by
    rw [List.map_cons]
    kernel_rfl
  refine callL_body Tryz.func75 rfl (by kernel_rfl) rfl rfl ?_
  have hg : (if cfI.grow 75 = true then σ.length else base) = σ.length := rfl
  rw [hg, z_body]
  generalize (e :: es).map edgeA = A at *
  generalize (e :: es).length = k at *
  simp only [Tryz.f75, go_sem, Nat.reduceBEq, Nat.reduceAdd, Nat.reduceSub, Nat.reduceEqDiff, Nat.reduceLeDiff, Nat.reduceMul, rgT, z_regionT, allocs, isv?, z_step, z_stepE, okDst, wantedA, evalOp, evalV, evalS, storeAt, look, ofV, ofC, putA, clearA, lookV, lookVs, lookParts, adrOk, baseAt, baseOf, loadAt, partA, binA, unA, resOf, mkRes, envOf, List.range, List.range.loop, evalBuiltin, liveW, regOf, startE, optN, mapGet, mapPut, orZero, keyOk, cellOk, decide_eq_true_eq, Bool.not_eq_true', decide_eq_false_iff_not, ite_not, not_true_eq_false, not_false_eq_true, reduceCtorEq, and_true, true_and, and_self, ha, hnil]

end Go.Can
