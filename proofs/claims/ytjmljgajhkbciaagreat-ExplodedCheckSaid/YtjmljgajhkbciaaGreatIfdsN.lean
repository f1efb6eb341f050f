/- checkNodes: the part ahead of the range over the map, by the evaluator. -/
import Derived.Test.YtjmljgajhkbciaaGreatIfdsO
set_option linter.unusedSimpArgs false
set_option linter.unusedVariables false
namespace Go.Can
open Go Go.Proofs

theorem z59' {σ : St} {base : Nat} {a1 a2 a3 b1 b2 b3 : Int} : callL Tryz.prog cf0 74 [.agg [.int .i64 a1, .int .i64 a2, .int .i64 a3], .agg [.int .i64 b1, .int .i64 b2, .int .i64 b3]] σ base = some (.int .i64 (cmpN (a1, a2, a3) (b1, b2, b3)), σ) := z59 (a := (a1, a2, a3)) (b := (b1, b2, b3))

def scanK : Option (Int × Int × Int) → List (Int × Int) → List (Int × Int × Int) → Int × List (Int × Int)
  | _, E, [] => (0, E)
  | p, E, n :: l => if nodeErr p n = 0 then scanK (some n) (bump n.1 (kindK n) E) l else (nodeErr p n, E)

theorem scanK_spec : ∀ {l : List (Int × Int × Int)} {p : Option (Int × Int × Int)} {E : List (Int × Int)}, (scanK p E l).1 = scanN p l ∧ (scanN p l = 0 → (scanK p E l).2 = kinds E l)
  | [], _, _ => ⟨rfl, fun _ => rfl⟩
  | n :: l, p, E => by
    obtain ⟨h1, h2⟩ := scanK_spec (l := l) (p := some n) (E := bump n.1 (kindK n) E)
    unfold scanK scanN kinds
    by_cases h : nodeErr p n = 0
    · rw [if_pos h, if_pos h]; exact ⟨h1, h2⟩
    · rw [if_neg h, if_neg h]; exact ⟨rfl, fun k => absurd k h⟩

def nPrev (ns : List (Int × Int × Int)) (i : Nat) : Option (Int × Int × Int) := if i = 0 then none else ns[i - 1]?

theorem prevN_at {ns : List (Int × Int × Int)} {i : Nat} (hlen : ns.length < 2^63) (hi : i < ns.length) (hz : ¬ i = 0) :
    ∃ q1 q2 q3, ns[i - 1]? = some (q1, q2, q3) ∧ (ns.map nodeA)[(IntKind.i64.wrap ((i : Int) - 1)).toNat]? = some (.agg [.int .i64 q1, .int .i64 q2, .int .i64 q3]) ∧ (0 ≤ IntKind.i64.wrap ((i : Int) - 1) ∧ IntKind.i64.wrap ((i : Int) - 1) < (ns.length : Int)) := by
  have hw : IntKind.i64.wrap ((i : Int) - 1) = ((i - 1 : Nat) : Int) := by rw [wrap_i64] <;> omega
  have h1 : i - 1 < ns.length := by omega
  obtain ⟨⟨q1, q2, q3⟩, _, h2, h3⟩ := drop_at nodeA h1
  refine ⟨q1, q2, q3, h3, ?_, ?_⟩
  · rw [hw, Int.toNat_natCast, h2]; rfl
  · rw [hw]; omega

set_option maxRecDepth 100000 in
set_option maxHeartbeats 16000000 in
theorem loop38 {fl : Bool} {ns : List (Int × Int × Int)} (hlen : ns.length < 2^63) : ∀ n (i : Nat) (p : Option (Int × Int × Int)) (E : List (Int × Int)), i + n = ns.length → p = nPrev ns i → (∀ f, 0 ≤ getC f E ∧ getC f E ≤ i) →
    loopM Tryz.prog cf0 49 0 (loopOf Tryz.f49 3) (envS 84 [(0, .val (.list fl 3 (ns.map nodeA))), (3, .val (.map (some 0))), (9, .val (.list fl 3 (ns.map nodeA))), (10, .val (.int .i64 ns.length)), (11, .val (.int .i64 i))], [.map (E.map entA)]) =
    if (scanK p E (ns.drop i)).1 = 0 then some (.exit 0, envS 84 [(3, .val (.map (some 0)))], [.map ((scanK p E (ns.drop i)).2.map entA)])
    else some (.ret, envS 84 [(2, .val (.int .i64 (scanK p E (ns.drop i)).1))], [.map ((scanK p E (ns.drop i)).2.map entA)]) := by
  intro n
  induction n with
  | zero =>
    intro i p E hi hpd hg
    have hi' : ¬ ((i : Int) < ns.length) := by omega
    have hd : ns.drop i = [] := List.drop_eq_nil_of_le (by omega)
    rw [loopM_step (by kernel_rfl), hd]
    simp only [loopOf, findLoop, regOf, Option.getD, envOf, List.range, List.range.loop, go_sem, Nat.reduceBEq, Nat.reduceEqDiff, Option.some.injEq, reduceCtorEq, envS, Tryz.f49]
    simp only [go_sem, Nat.reduceBEq, Nat.reduceAdd, Nat.reduceSub, Nat.reduceEqDiff, Nat.reduceLeDiff, Nat.reduceMul, rgT, z_regionT, allocs, isv?, z_step, z_stepE, okDst, wantedA, evalOp, evalV, evalS, storeAt, look, ofV, ofC, putA, clearA, lookV, lookVs, lookParts, adrOk, baseAt, baseOf, loadAt, partA, binA, unA, resOf, mkRes, envOf, List.range, List.range.loop, evalBuiltin, liveW, regOf, startE, optN, mapGet, mapPut, orZero, keyOk, cellOk, decide_eq_true_eq, Bool.not_eq_true', decide_eq_false_iff_not, ite_not, not_true_eq_false, not_false_eq_true, reduceCtorEq, and_true, true_and, and_self, envS, hi', scanK]
  | succ n ih =>
    intro i p E hi hpd hg
    have hlt : i < ns.length := by omega
    obtain ⟨⟨y1, y2, y3⟩, hd, hel, hget⟩ := drop_at nodeA hlt
    have hw := w_inc hlt (by omega)
    have hlt' : (i : Int) < (ns.length : Int) := by omega
    have hll : (ns.map nodeA).length = ns.length := by simp
    have hl : lenS (.list fl 3 (ns.map nodeA)) = some ns.length := by simp [lenS]
    have hg1 := hg y1
    have ih' := ih (i + 1) (some (y1, y2, y3)) (bump y1 (kindK (y1, y2, y3)) E) (by omega) (by unfold nPrev; rw [if_neg (by omega), Nat.add_sub_cancel, hget]) (fun f => by
      rw [getC_bump]
      have := hg f
      unfold kindK
      repeat' split
      all_goals omega)
    rw [loopM_step (by kernel_rfl), hd]
    simp only [loopOf, findLoop, regOf, Option.getD, envOf, List.range, List.range.loop, go_sem, Nat.reduceBEq, Nat.reduceEqDiff, Option.some.injEq, reduceCtorEq, envS, Tryz.f49] at ih' ⊢
    unfold nPrev at hpd
    have hpq := fun hz => prevN_at (ns := ns) hlen hlt hz
    replace hel : (ns.map nodeA)[i]? = some (.agg [.int .i64 y1, .int .i64 y2, .int .i64 y3]) := hel
    clear ih hg hd hget
    generalize ns.map nodeA = A at *
    · skip
      by_cases a1 : y2 < 1
      · have he : nodeErr p (y1, y2, y3) = 12 := by unfold nodeErr; simp only; repeat' split; all_goals first | rfl | omega
        have hsk : scanK p E ((y1, y2, y3) :: ns.drop (i + 1)) = (12, E) := by unfold scanK; rw [he, if_neg (by decide)]
        have hne : ¬ ((12 : Int) = 0) := by decide
        rw [hsk]
        simp only [hne, if_false]
        simp (config := { maxSteps := 4000000 }) only [go_sem, Nat.reduceBEq, Nat.reduceAdd, Nat.reduceSub, Nat.reduceEqDiff, Nat.reduceLeDiff, Nat.reduceMul, rgT, z_regionT, allocs, isv?, z_step, z_stepE, okDst, wantedA, evalOp, evalV, evalS, storeAt, look, ofV, ofC, putA, clearA, lookV, lookVs, lookParts, adrOk, baseAt, baseOf, loadAt, partA, binA, unA, resOf, mkRes, envOf, List.range, List.range.loop, evalBuiltin, liveW, regOf, startE, optN, mapGet, mapPut, orZero, keyOk, cellOk, decide_eq_true_eq, Bool.not_eq_true', decide_eq_false_iff_not, ite_not, not_true_eq_false, not_false_eq_true, reduceCtorEq, and_true, true_and, and_self, Int.reduceLT, Int.reduceLE, Int.reduceEq, envS, hlt', hl, hel, hw, gt_iff_lt, ge_iff_le, a1]
      by_cases a2 : 4 < y2
      · have he : nodeErr p (y1, y2, y3) = 12 := by unfold nodeErr; simp only; repeat' split; all_goals first | rfl | omega
        have hsk : scanK p E ((y1, y2, y3) :: ns.drop (i + 1)) = (12, E) := by unfold scanK; rw [he, if_neg (by decide)]
        have hne : ¬ ((12 : Int) = 0) := by decide
        rw [hsk]
        simp only [hne, if_false]
        simp (config := { maxSteps := 4000000 }) only [go_sem, Nat.reduceBEq, Nat.reduceAdd, Nat.reduceSub, Nat.reduceEqDiff, Nat.reduceLeDiff, Nat.reduceMul, rgT, z_regionT, allocs, isv?, z_step, z_stepE, okDst, wantedA, evalOp, evalV, evalS, storeAt, look, ofV, ofC, putA, clearA, lookV, lookVs, lookParts, adrOk, baseAt, baseOf, loadAt, partA, binA, unA, resOf, mkRes, envOf, List.range, List.range.loop, evalBuiltin, liveW, regOf, startE, optN, mapGet, mapPut, orZero, keyOk, cellOk, decide_eq_true_eq, Bool.not_eq_true', decide_eq_false_iff_not, ite_not, not_true_eq_false, not_false_eq_true, reduceCtorEq, and_true, true_and, and_self, Int.reduceLT, Int.reduceLE, Int.reduceEq, envS, hlt', hl, hel, hw, gt_iff_lt, ge_iff_le, a1, a2]
      by_cases a3 : y1 < 0
      · have he : nodeErr p (y1, y2, y3) = 4 := by unfold nodeErr; simp only; repeat' split; all_goals first | rfl | omega
        have hsk : scanK p E ((y1, y2, y3) :: ns.drop (i + 1)) = (4, E) := by unfold scanK; rw [he, if_neg (by decide)]
        have hne : ¬ ((4 : Int) = 0) := by decide
        rw [hsk]
        simp only [hne, if_false]
        simp (config := { maxSteps := 4000000 }) only [go_sem, Nat.reduceBEq, Nat.reduceAdd, Nat.reduceSub, Nat.reduceEqDiff, Nat.reduceLeDiff, Nat.reduceMul, rgT, z_regionT, allocs, isv?, z_step, z_stepE, okDst, wantedA, evalOp, evalV, evalS, storeAt, look, ofV, ofC, putA, clearA, lookV, lookVs, lookParts, adrOk, baseAt, baseOf, loadAt, partA, binA, unA, resOf, mkRes, envOf, List.range, List.range.loop, evalBuiltin, liveW, regOf, startE, optN, mapGet, mapPut, orZero, keyOk, cellOk, decide_eq_true_eq, Bool.not_eq_true', decide_eq_false_iff_not, ite_not, not_true_eq_false, not_false_eq_true, reduceCtorEq, and_true, true_and, and_self, Int.reduceLT, Int.reduceLE, Int.reduceEq, envS, hlt', hl, hel, hw, gt_iff_lt, ge_iff_le, a1, a2, a3]
      by_cases k : y2 = 2
      · subst k
        by_cases a4 : y3 < 0
        · have he : nodeErr p (y1, 2, y3) = 4 := by unfold nodeErr; simp only; repeat' split; all_goals first | rfl | omega
          have hsk : scanK p E ((y1, 2, y3) :: ns.drop (i + 1)) = (4, E) := by unfold scanK; rw [he, if_neg (by decide)]
          have hne : ¬ ((4 : Int) = 0) := by decide
          rw [hsk]
          simp only [hne, if_false]
          simp (config := { maxSteps := 4000000 }) only [go_sem, Nat.reduceBEq, Nat.reduceAdd, Nat.reduceSub, Nat.reduceEqDiff, Nat.reduceLeDiff, Nat.reduceMul, rgT, z_regionT, allocs, isv?, z_step, z_stepE, okDst, wantedA, evalOp, evalV, evalS, storeAt, look, ofV, ofC, putA, clearA, lookV, lookVs, lookParts, adrOk, baseAt, baseOf, loadAt, partA, binA, unA, resOf, mkRes, envOf, List.range, List.range.loop, evalBuiltin, liveW, regOf, startE, optN, mapGet, mapPut, orZero, keyOk, cellOk, decide_eq_true_eq, Bool.not_eq_true', decide_eq_false_iff_not, ite_not, not_true_eq_false, not_false_eq_true, reduceCtorEq, and_true, true_and, and_self, Int.reduceLT, Int.reduceLE, Int.reduceEq, envS, hlt', hl, hel, hw, gt_iff_lt, ge_iff_le, a3, a4]
        by_cases z : i = 0
        · have hp : p = none := by rw [hpd, if_pos z]
          have hz0 : ¬ (0 : Int) < (i : Int) := by omega
          skip
          · have he : nodeErr p (y1, 2, y3) = 0 := by rw [hp]; unfold nodeErr; simp only; repeat' split; all_goals first | rfl | omega | simp_all
            have hk : kindK (y1, 2, y3) = 0 := by unfold kindK; first | (simp; done) | (simp only; repeat' split; all_goals first | rfl | omega)
            have hsk : scanK p E ((y1, 2, y3) :: ns.drop (i + 1)) = scanK (some (y1, 2, y3)) (bump y1 (kindK (y1, 2, y3)) E) (ns.drop (i + 1)) := by conv => lhs; unfold scanK; rw [he, if_pos rfl]
            rw [hsk, hk]
            rw [hk] at ih'
            rcases find_ent (f := y1) (E := E) (i := 0) with ⟨f1, f2, f3⟩ | ⟨j, f1, f2⟩
            · have f3' := f3 0
              have hz : IntKind.i64.wrap ((0 : Int) + 0) = 0 := by rw [wrap_i64] <;> omega
              simp (config := { maxSteps := 4000000 }) only [go_sem, Nat.reduceBEq, Nat.reduceAdd, Nat.reduceSub, Nat.reduceEqDiff, Nat.reduceLeDiff, Nat.reduceMul, rgT, z_regionT, allocs, isv?, z_step, z_stepE, okDst, wantedA, evalOp, evalV, evalS, storeAt, look, ofV, ofC, putA, clearA, lookV, lookVs, lookParts, adrOk, baseAt, baseOf, loadAt, partA, binA, unA, resOf, mkRes, envOf, List.range, List.range.loop, evalBuiltin, liveW, regOf, startE, optN, mapGet, mapPut, orZero, keyOk, cellOk, decide_eq_true_eq, Bool.not_eq_true', decide_eq_false_iff_not, ite_not, not_true_eq_false, not_false_eq_true, reduceCtorEq, and_true, true_and, and_self, Int.reduceLT, Int.reduceLE, Int.reduceEq, envS, hlt', hl, hel, hw, gt_iff_lt, ge_iff_le, a3, a4, hz0, f1, f3', hz, ih']
            · have f2' := f2 0
              have hz : IntKind.i64.wrap (getC y1 E + 0) = getC y1 E + 0 := by rw [wrap_i64] <;> omega
              rw [Nat.zero_add] at f1
              simp (config := { maxSteps := 4000000 }) only [go_sem, Nat.reduceBEq, Nat.reduceAdd, Nat.reduceSub, Nat.reduceEqDiff, Nat.reduceLeDiff, Nat.reduceMul, rgT, z_regionT, allocs, isv?, z_step, z_stepE, okDst, wantedA, evalOp, evalV, evalS, storeAt, look, ofV, ofC, putA, clearA, lookV, lookVs, lookParts, adrOk, baseAt, baseOf, loadAt, partA, binA, unA, resOf, mkRes, envOf, List.range, List.range.loop, evalBuiltin, liveW, regOf, startE, optN, mapGet, mapPut, orZero, keyOk, cellOk, decide_eq_true_eq, Bool.not_eq_true', decide_eq_false_iff_not, ite_not, not_true_eq_false, not_false_eq_true, reduceCtorEq, and_true, true_and, and_self, Int.reduceLT, Int.reduceLE, Int.reduceEq, envS, hlt', hl, hel, hw, gt_iff_lt, ge_iff_le, a3, a4, hz0, f1, f2', hz, ih']
        · obtain ⟨q1, q2, q3, hq, hqel, hqw⟩ := hpq z
          have hp : p = some (q1, q2, q3) := by rw [hpd, if_neg z, hq]
          have hz0 : (0 : Int) < (i : Int) := by omega
          by_cases hc : 0 ≤ cmpN (q1, q2, q3) (y1, 2, y3)
          · have he : nodeErr p (y1, 2, y3) = 13 := by rw [hp]; unfold nodeErr; simp only; repeat' split; all_goals first | rfl | omega
            have hsk : scanK p E ((y1, 2, y3) :: ns.drop (i + 1)) = (13, E) := by unfold scanK; rw [he, if_neg (by decide)]
            have hne : ¬ ((13 : Int) = 0) := by decide
            rw [hsk]
            simp only [hne, if_false]
            simp (config := { maxSteps := 4000000 }) only [go_sem, Nat.reduceBEq, Nat.reduceAdd, Nat.reduceSub, Nat.reduceEqDiff, Nat.reduceLeDiff, Nat.reduceMul, rgT, z_regionT, allocs, isv?, z_step, z_stepE, okDst, wantedA, evalOp, evalV, evalS, storeAt, look, ofV, ofC, putA, clearA, lookV, lookVs, lookParts, adrOk, baseAt, baseOf, loadAt, partA, binA, unA, resOf, mkRes, envOf, List.range, List.range.loop, evalBuiltin, liveW, regOf, startE, optN, mapGet, mapPut, orZero, keyOk, cellOk, decide_eq_true_eq, Bool.not_eq_true', decide_eq_false_iff_not, ite_not, not_true_eq_false, not_false_eq_true, reduceCtorEq, and_true, true_and, and_self, Int.reduceLT, Int.reduceLE, Int.reduceEq, envS, hlt', hl, hel, hw, gt_iff_lt, ge_iff_le, a3, a4, hz0, hqel, hqw, hc, z59', hll]
          · have he : nodeErr p (y1, 2, y3) = 0 := by rw [hp]; unfold nodeErr; simp only; repeat' split; all_goals first | rfl | omega | simp_all
            have hk : kindK (y1, 2, y3) = 0 := by unfold kindK; first | (simp; done) | (simp only; repeat' split; all_goals first | rfl | omega)
            have hsk : scanK p E ((y1, 2, y3) :: ns.drop (i + 1)) = scanK (some (y1, 2, y3)) (bump y1 (kindK (y1, 2, y3)) E) (ns.drop (i + 1)) := by conv => lhs; unfold scanK; rw [he, if_pos rfl]
            rw [hsk, hk]
            rw [hk] at ih'
            rcases find_ent (f := y1) (E := E) (i := 0) with ⟨f1, f2, f3⟩ | ⟨j, f1, f2⟩
            · have f3' := f3 0
              have hz : IntKind.i64.wrap ((0 : Int) + 0) = 0 := by rw [wrap_i64] <;> omega
              simp (config := { maxSteps := 4000000 }) only [go_sem, Nat.reduceBEq, Nat.reduceAdd, Nat.reduceSub, Nat.reduceEqDiff, Nat.reduceLeDiff, Nat.reduceMul, rgT, z_regionT, allocs, isv?, z_step, z_stepE, okDst, wantedA, evalOp, evalV, evalS, storeAt, look, ofV, ofC, putA, clearA, lookV, lookVs, lookParts, adrOk, baseAt, baseOf, loadAt, partA, binA, unA, resOf, mkRes, envOf, List.range, List.range.loop, evalBuiltin, liveW, regOf, startE, optN, mapGet, mapPut, orZero, keyOk, cellOk, decide_eq_true_eq, Bool.not_eq_true', decide_eq_false_iff_not, ite_not, not_true_eq_false, not_false_eq_true, reduceCtorEq, and_true, true_and, and_self, Int.reduceLT, Int.reduceLE, Int.reduceEq, envS, hlt', hl, hel, hw, gt_iff_lt, ge_iff_le, a3, a4, hz0, hqel, hqw, hc, f1, f3', hz, ih', z59', hll]
            · have f2' := f2 0
              have hz : IntKind.i64.wrap (getC y1 E + 0) = getC y1 E + 0 := by rw [wrap_i64] <;> omega
              rw [Nat.zero_add] at f1
              simp (config := { maxSteps := 4000000 }) only [go_sem, Nat.reduceBEq, Nat.reduceAdd, Nat.reduceSub, Nat.reduceEqDiff, Nat.reduceLeDiff, Nat.reduceMul, rgT, z_regionT, allocs, isv?, z_step, z_stepE, okDst, wantedA, evalOp, evalV, evalS, storeAt, look, ofV, ofC, putA, clearA, lookV, lookVs, lookParts, adrOk, baseAt, baseOf, loadAt, partA, binA, unA, resOf, mkRes, envOf, List.range, List.range.loop, evalBuiltin, liveW, regOf, startE, optN, mapGet, mapPut, orZero, keyOk, cellOk, decide_eq_true_eq, Bool.not_eq_true', decide_eq_false_iff_not, ite_not, not_true_eq_false, not_false_eq_true, reduceCtorEq, and_true, true_and, and_self, Int.reduceLT, Int.reduceLE, Int.reduceEq, envS, hlt', hl, hel, hw, gt_iff_lt, ge_iff_le, a3, a4, hz0, hqel, hqw, hc, f1, f2', hz, ih', z59', hll]
      by_cases a5 : y3 = -1
      · subst a5
        by_cases z : i = 0
        · have hp : p = none := by rw [hpd, if_pos z]
          have hz0 : ¬ (0 : Int) < (i : Int) := by omega
          skip
          · have he : nodeErr p (y1, y2, -1) = 0 := by rw [hp]; unfold nodeErr; simp only; repeat' split; all_goals first | rfl | omega | simp_all
            have hk : kindK (y1, y2, -1) = 1 := by unfold kindK; first | (simp; done) | (simp only; repeat' split; all_goals first | rfl | omega)
            have hsk : scanK p E ((y1, y2, -1) :: ns.drop (i + 1)) = scanK (some (y1, y2, -1)) (bump y1 (kindK (y1, y2, -1)) E) (ns.drop (i + 1)) := by conv => lhs; unfold scanK; rw [he, if_pos rfl]
            rw [hsk, hk]
            rw [hk] at ih'
            rcases find_ent (f := y1) (E := E) (i := 0) with ⟨f1, f2, f3⟩ | ⟨j, f1, f2⟩
            · have f3' := f3 1
              have hz : IntKind.i64.wrap ((0 : Int) + 1) = 1 := by rw [wrap_i64] <;> omega
              simp (config := { maxSteps := 4000000 }) only [go_sem, Nat.reduceBEq, Nat.reduceAdd, Nat.reduceSub, Nat.reduceEqDiff, Nat.reduceLeDiff, Nat.reduceMul, rgT, z_regionT, allocs, isv?, z_step, z_stepE, okDst, wantedA, evalOp, evalV, evalS, storeAt, look, ofV, ofC, putA, clearA, lookV, lookVs, lookParts, adrOk, baseAt, baseOf, loadAt, partA, binA, unA, resOf, mkRes, envOf, List.range, List.range.loop, evalBuiltin, liveW, regOf, startE, optN, mapGet, mapPut, orZero, keyOk, cellOk, decide_eq_true_eq, Bool.not_eq_true', decide_eq_false_iff_not, ite_not, not_true_eq_false, not_false_eq_true, reduceCtorEq, and_true, true_and, and_self, Int.reduceLT, Int.reduceLE, Int.reduceEq, envS, hlt', hl, hel, hw, gt_iff_lt, ge_iff_le, a1, a2, a3, k, hz0, f1, f3', hz, ih']
            · have f2' := f2 1
              have hz : IntKind.i64.wrap (getC y1 E + 1) = getC y1 E + 1 := by rw [wrap_i64] <;> omega
              rw [Nat.zero_add] at f1
              simp (config := { maxSteps := 4000000 }) only [go_sem, Nat.reduceBEq, Nat.reduceAdd, Nat.reduceSub, Nat.reduceEqDiff, Nat.reduceLeDiff, Nat.reduceMul, rgT, z_regionT, allocs, isv?, z_step, z_stepE, okDst, wantedA, evalOp, evalV, evalS, storeAt, look, ofV, ofC, putA, clearA, lookV, lookVs, lookParts, adrOk, baseAt, baseOf, loadAt, partA, binA, unA, resOf, mkRes, envOf, List.range, List.range.loop, evalBuiltin, liveW, regOf, startE, optN, mapGet, mapPut, orZero, keyOk, cellOk, decide_eq_true_eq, Bool.not_eq_true', decide_eq_false_iff_not, ite_not, not_true_eq_false, not_false_eq_true, reduceCtorEq, and_true, true_and, and_self, Int.reduceLT, Int.reduceLE, Int.reduceEq, envS, hlt', hl, hel, hw, gt_iff_lt, ge_iff_le, a1, a2, a3, k, hz0, f1, f2', hz, ih']
        · obtain ⟨q1, q2, q3, hq, hqel, hqw⟩ := hpq z
          have hp : p = some (q1, q2, q3) := by rw [hpd, if_neg z, hq]
          have hz0 : (0 : Int) < (i : Int) := by omega
          by_cases hc : 0 ≤ cmpN (q1, q2, q3) (y1, y2, -1)
          · have he : nodeErr p (y1, y2, -1) = 13 := by rw [hp]; unfold nodeErr; simp only; repeat' split; all_goals first | rfl | omega
            have hsk : scanK p E ((y1, y2, -1) :: ns.drop (i + 1)) = (13, E) := by unfold scanK; rw [he, if_neg (by decide)]
            have hne : ¬ ((13 : Int) = 0) := by decide
            rw [hsk]
            simp only [hne, if_false]
            simp (config := { maxSteps := 4000000 }) only [go_sem, Nat.reduceBEq, Nat.reduceAdd, Nat.reduceSub, Nat.reduceEqDiff, Nat.reduceLeDiff, Nat.reduceMul, rgT, z_regionT, allocs, isv?, z_step, z_stepE, okDst, wantedA, evalOp, evalV, evalS, storeAt, look, ofV, ofC, putA, clearA, lookV, lookVs, lookParts, adrOk, baseAt, baseOf, loadAt, partA, binA, unA, resOf, mkRes, envOf, List.range, List.range.loop, evalBuiltin, liveW, regOf, startE, optN, mapGet, mapPut, orZero, keyOk, cellOk, decide_eq_true_eq, Bool.not_eq_true', decide_eq_false_iff_not, ite_not, not_true_eq_false, not_false_eq_true, reduceCtorEq, and_true, true_and, and_self, Int.reduceLT, Int.reduceLE, Int.reduceEq, envS, hlt', hl, hel, hw, gt_iff_lt, ge_iff_le, a1, a2, a3, k, hz0, hqel, hqw, hc, z59', hll]
          · have he : nodeErr p (y1, y2, -1) = 0 := by rw [hp]; unfold nodeErr; simp only; repeat' split; all_goals first | rfl | omega | simp_all
            have hk : kindK (y1, y2, -1) = 1 := by unfold kindK; first | (simp; done) | (simp only; repeat' split; all_goals first | rfl | omega)
            have hsk : scanK p E ((y1, y2, -1) :: ns.drop (i + 1)) = scanK (some (y1, y2, -1)) (bump y1 (kindK (y1, y2, -1)) E) (ns.drop (i + 1)) := by conv => lhs; unfold scanK; rw [he, if_pos rfl]
            rw [hsk, hk]
            rw [hk] at ih'
            rcases find_ent (f := y1) (E := E) (i := 0) with ⟨f1, f2, f3⟩ | ⟨j, f1, f2⟩
            · have f3' := f3 1
              have hz : IntKind.i64.wrap ((0 : Int) + 1) = 1 := by rw [wrap_i64] <;> omega
              simp (config := { maxSteps := 4000000 }) only [go_sem, Nat.reduceBEq, Nat.reduceAdd, Nat.reduceSub, Nat.reduceEqDiff, Nat.reduceLeDiff, Nat.reduceMul, rgT, z_regionT, allocs, isv?, z_step, z_stepE, okDst, wantedA, evalOp, evalV, evalS, storeAt, look, ofV, ofC, putA, clearA, lookV, lookVs, lookParts, adrOk, baseAt, baseOf, loadAt, partA, binA, unA, resOf, mkRes, envOf, List.range, List.range.loop, evalBuiltin, liveW, regOf, startE, optN, mapGet, mapPut, orZero, keyOk, cellOk, decide_eq_true_eq, Bool.not_eq_true', decide_eq_false_iff_not, ite_not, not_true_eq_false, not_false_eq_true, reduceCtorEq, and_true, true_and, and_self, Int.reduceLT, Int.reduceLE, Int.reduceEq, envS, hlt', hl, hel, hw, gt_iff_lt, ge_iff_le, a1, a2, a3, k, hz0, hqel, hqw, hc, f1, f3', hz, ih', z59', hll]
            · have f2' := f2 1
              have hz : IntKind.i64.wrap (getC y1 E + 1) = getC y1 E + 1 := by rw [wrap_i64] <;> omega
              rw [Nat.zero_add] at f1
              simp (config := { maxSteps := 4000000 }) only [go_sem, Nat.reduceBEq, Nat.reduceAdd, Nat.reduceSub, Nat.reduceEqDiff, Nat.reduceLeDiff, Nat.reduceMul, rgT, z_regionT, allocs, isv?, z_step, z_stepE, okDst, wantedA, evalOp, evalV, evalS, storeAt, look, ofV, ofC, putA, clearA, lookV, lookVs, lookParts, adrOk, baseAt, baseOf, loadAt, partA, binA, unA, resOf, mkRes, envOf, List.range, List.range.loop, evalBuiltin, liveW, regOf, startE, optN, mapGet, mapPut, orZero, keyOk, cellOk, decide_eq_true_eq, Bool.not_eq_true', decide_eq_false_iff_not, ite_not, not_true_eq_false, not_false_eq_true, reduceCtorEq, and_true, true_and, and_self, Int.reduceLT, Int.reduceLE, Int.reduceEq, envS, hlt', hl, hel, hw, gt_iff_lt, ge_iff_le, a1, a2, a3, k, hz0, hqel, hqw, hc, f1, f2', hz, ih', z59', hll]
      · have he : nodeErr p (y1, y2, y3) = 4 := by unfold nodeErr; simp only; repeat' split; all_goals first | rfl | omega
        have hsk : scanK p E ((y1, y2, y3) :: ns.drop (i + 1)) = (4, E) := by unfold scanK; rw [he, if_neg (by decide)]
        have hne : ¬ ((4 : Int) = 0) := by decide
        rw [hsk]
        simp only [hne, if_false]
        simp (config := { maxSteps := 4000000 }) only [go_sem, Nat.reduceBEq, Nat.reduceAdd, Nat.reduceSub, Nat.reduceEqDiff, Nat.reduceLeDiff, Nat.reduceMul, rgT, z_regionT, allocs, isv?, z_step, z_stepE, okDst, wantedA, evalOp, evalV, evalS, storeAt, look, ofV, ofC, putA, clearA, lookV, lookVs, lookParts, adrOk, baseAt, baseOf, loadAt, partA, binA, unA, resOf, mkRes, envOf, List.range, List.range.loop, evalBuiltin, liveW, regOf, startE, optN, mapGet, mapPut, orZero, keyOk, cellOk, decide_eq_true_eq, Bool.not_eq_true', decide_eq_false_iff_not, ite_not, not_true_eq_false, not_false_eq_true, reduceCtorEq, and_true, true_and, and_self, Int.reduceLT, Int.reduceLE, Int.reduceEq, envS, hlt', hl, hel, hw, gt_iff_lt, ge_iff_le, a1, a2, a3, k, a5]

-- END38

end Go.Can
