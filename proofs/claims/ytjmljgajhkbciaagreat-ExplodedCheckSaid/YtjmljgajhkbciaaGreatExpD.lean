/- Contracts: exploded.Check. -/
import Derived.Test.YtjmljgajhkbciaaGreatExpC
set_option linter.unusedSimpArgs false
set_option linter.unusedVariables false
namespace Go.Can
open Go Go.Proofs

theorem ints_at {l : List Int} {i : Nat} (h : i < l.length) : (ints l)[i]? = some (.int .i64 (l.getD i 0)) := by simp [ints, h]

/-! Contains of numbers. -/
def idx (l : List Int) (x : Int) : Int := match l.findIdx? (fun y => decide (x = y)) with
  | some k => k
  | none => -1

theorem idx_mem {l : List Int} {x : Int} : decide (0 ≤ idx l x) = decide (x ∈ l) := by
  unfold idx
  cases h : l.findIdx? (fun y => decide (x = y)) with
  | none =>
    simp only [List.findIdx?_eq_none_iff, decide_eq_false_iff_not] at h
    have : ¬ x ∈ l := fun hm => h x hm rfl
    simp [this]
  | some k =>
    obtain ⟨hk, h1, _⟩ := List.findIdx?_eq_some_iff_getElem.1 h
    have : x ∈ l := by simp at h1; rw [h1]; exact List.getElem_mem hk
    simp [this]

set_option maxRecDepth 100000 in
set_option maxHeartbeats 4000000 in
theorem c50 {σ : St} {base : Nat} {a : AV} {l : List Int} (hs : Sl σ 1 a (ints l)) {x : Int} (hlen : l.length < 2^63) :
    callL Tryz.prog cfI 43 [a, .int .i64 x] σ base = some (.int .i64 (idx l x), σ) := by
  have hl := hs.len
  have hv := hs.v
  have he := hs.el
  rw [ints_len] at hl
  have key : ∀ n (i : Nat), i + n = l.length → loopM Tryz.prog cfI 43 σ.length (loopOf Tryz.f43 2) (envS 19 [(0, .val a), (1, .val (.int .i64 x)), (7, .val (.int .i64 l.length)), (8, .val (.int .i64 i))], σ) =
     match (l.drop i).findIdx? (fun y => decide (x = y)) with
     | some k => some (.ret, envS 19 [(4, .val (.int .i64 (i + k : Nat)))], σ)
     | none => some (.exit 0, envS 19 [], σ) := by
    intro n
    induction n with
    | zero =>
      intro i hi
      have hi' : ¬ ((i : Int) < l.length) := by omega
      have hd : l.drop i = [] := List.drop_eq_nil_of_le (by omega)
      rw [loopM_step (by kernel_rfl), hd]
      simp only [loopOf, findLoop, regOf, Option.getD, envOf, List.range, List.range.loop, go_sem, Nat.reduceBEq, Nat.reduceEqDiff, Option.some.injEq, reduceCtorEq, envS, Tryz.f43]
      simp only [go_sem, Nat.reduceBEq, Nat.reduceAdd, Nat.reduceSub, Nat.reduceEqDiff, Nat.reduceLeDiff, Nat.reduceMul, rgT, z_regionT, allocs, isv?, z_step, z_stepE, okDst, wantedA, evalOp, evalV, evalS, storeAt, look, ofV, ofC, putA, clearA, lookV, lookVs, lookParts, adrOk, baseAt, baseOf, loadAt, partA, binA, unA, resOf, mkRes, envOf, List.range, List.range.loop, evalBuiltin, liveW, regOf, startE, optN, mapGet, mapPut, orZero, keyOk, cellOk, decide_eq_true_eq, Bool.not_eq_true', decide_eq_false_iff_not, ite_not, not_true_eq_false, not_false_eq_true, reduceCtorEq, and_true, true_and, and_self, envS, hl, hv, hi', List.findIdx?_nil]
    | succ n ih =>
      intro i hi
      have hlt : i < l.length := by omega
      obtain ⟨y, hd, hel, _⟩ := drop_at (AV.int .i64) hlt
      have hel' : (ints l)[i]? = some (.int .i64 y) := hel
      have hw := w_inc hlt (by omega)
      have hlt' : (i : Int) < (l.length : Int) := by omega
      have h0i : (0 : Int) ≤ (i : Int) := by omega
      have ih' := ih (i + 1) (by omega)
      rw [loopM_step (by kernel_rfl), hd, List.findIdx?_cons]
      simp only [loopOf, findLoop, regOf, Option.getD, envOf, List.range, List.range.loop, go_sem, Nat.reduceBEq, Nat.reduceEqDiff, Option.some.injEq, reduceCtorEq, envS, Tryz.f43] at ih' ⊢
      clear ih hd hel
      generalize ints l = A at *
      by_cases hq : x = y
      · have hq2 : y = x := hq.symm
        subst hq
        simp (config := { maxSteps := 4000000 }) only [go_sem, Nat.reduceBEq, Nat.reduceAdd, Nat.reduceSub, Nat.reduceEqDiff, Nat.reduceLeDiff, Nat.reduceMul, rgT, z_regionT, allocs, isv?, z_step, z_stepE, okDst, wantedA, evalOp, evalV, evalS, storeAt, look, ofV, ofC, putA, clearA, lookV, lookVs, lookParts, adrOk, baseAt, baseOf, loadAt, partA, binA, unA, resOf, mkRes, envOf, List.range, List.range.loop, evalBuiltin, liveW, regOf, startE, optN, mapGet, mapPut, orZero, keyOk, cellOk, decide_eq_true_eq, Bool.not_eq_true', decide_eq_false_iff_not, ite_not, not_true_eq_false, not_false_eq_true, reduceCtorEq, and_true, true_and, and_self, envS, hl, hv, he, hlt', h0i, hel', hw, decide_true, if_true, Nat.add_zero]
      · have hq2 : ¬ y = x := fun e => hq e.symm
        simp only [hq, decide_false, Bool.false_eq_true, if_false]
        cases hf : (l.drop (i + 1)).findIdx? (fun y => decide (x = y)) with
        | none =>
          rw [hf] at ih'
          simp (config := { maxSteps := 4000000 }) only [go_sem, Nat.reduceBEq, Nat.reduceAdd, Nat.reduceSub, Nat.reduceEqDiff, Nat.reduceLeDiff, Nat.reduceMul, rgT, z_regionT, allocs, isv?, z_step, z_stepE, okDst, wantedA, evalOp, evalV, evalS, storeAt, look, ofV, ofC, putA, clearA, lookV, lookVs, lookParts, adrOk, baseAt, baseOf, loadAt, partA, binA, unA, resOf, mkRes, envOf, List.range, List.range.loop, evalBuiltin, liveW, regOf, startE, optN, mapGet, mapPut, orZero, keyOk, cellOk, decide_eq_true_eq, Bool.not_eq_true', decide_eq_false_iff_not, ite_not, not_true_eq_false, not_false_eq_true, reduceCtorEq, and_true, true_and, and_self, envS, hl, hv, he, hlt', h0i, hel', hw, hq, hq2, ih', Option.map_none]
        | some k =>
          rw [hf] at ih'
          have e : i + 1 + k = i + (k + 1) := by omega
          simp only [e] at ih'
          simp (config := { maxSteps := 4000000 }) only [go_sem, Nat.reduceBEq, Nat.reduceAdd, Nat.reduceSub, Nat.reduceEqDiff, Nat.reduceLeDiff, Nat.reduceMul, rgT, z_regionT, allocs, isv?, z_step, z_stepE, okDst, wantedA, evalOp, evalV, evalS, storeAt, look, ofV, ofC, putA, clearA, lookV, lookVs, lookParts, adrOk, baseAt, baseOf, loadAt, partA, binA, unA, resOf, mkRes, envOf, List.range, List.range.loop, evalBuiltin, liveW, regOf, startE, optN, mapGet, mapPut, orZero, keyOk, cellOk, decide_eq_true_eq, Bool.not_eq_true', decide_eq_false_iff_not, ite_not, not_true_eq_false, not_false_eq_true, reduceCtorEq, and_true, true_and, and_self, envS, hl, hv, he, hlt', h0i, hel', hw, hq, hq2, ih', Option.map_some]
  have key0 := key l.length 0 (by omega)
  rw [show ((0 : Nat) : Int) = 0 from rfl, List.drop_zero] at key0
  refine callL_pure (σ' := σ) (v := .int .i64 (idx l x)) Tryz.func43 rfl (by kernel_rfl) rfl rfl (by simp) ?_ rfl
  rw [z_body]
  simp only [loopOf, findLoop, regOf, Option.getD, envOf, List.range, List.range.loop, go_sem, Nat.reduceBEq, Nat.reduceEqDiff, Option.some.injEq, reduceCtorEq, envS, Tryz.f43] at key0
  unfold idx
  cases hf : l.findIdx? (fun y => decide (x = y)) with
  | none =>
    rw [hf] at key0
    simp (config := { maxSteps := 4000000 }) only [Tryz.f43, go_sem, Nat.reduceBEq, Nat.reduceAdd, Nat.reduceSub, Nat.reduceEqDiff, Nat.reduceLeDiff, Nat.reduceMul, rgT, z_regionT, allocs, isv?, z_step, z_stepE, okDst, wantedA, evalOp, evalV, evalS, storeAt, look, ofV, ofC, putA, clearA, lookV, lookVs, lookParts, adrOk, baseAt, baseOf, loadAt, partA, binA, unA, resOf, mkRes, envOf, List.range, List.range.loop, evalBuiltin, liveW, regOf, startE, optN, mapGet, mapPut, orZero, keyOk, cellOk, decide_eq_true_eq, Bool.not_eq_true', decide_eq_false_iff_not, ite_not, not_true_eq_false, not_false_eq_true, reduceCtorEq, and_true, true_and, and_self, hl, hv, key0]
  | some k =>
    rw [hf] at key0
    simp (config := { maxSteps := 4000000 }) only [Tryz.f43, go_sem, Nat.reduceBEq, Nat.reduceAdd, Nat.reduceSub, Nat.reduceEqDiff, Nat.reduceLeDiff, Nat.reduceMul, rgT, z_regionT, allocs, isv?, z_step, z_stepE, okDst, wantedA, evalOp, evalV, evalS, storeAt, look, ofV, ofC, putA, clearA, lookV, lookVs, lookParts, adrOk, baseAt, baseOf, loadAt, partA, binA, unA, resOf, mkRes, envOf, List.range, List.range.loop, evalBuiltin, liveW, regOf, startE, optN, mapGet, mapPut, orZero, keyOk, cellOk, decide_eq_true_eq, Bool.not_eq_true', decide_eq_false_iff_not, ite_not, not_true_eq_false, not_false_eq_true, reduceCtorEq, and_true, true_and, and_self, hl, hv, key0, Nat.zero_add]

set_option maxRecDepth 100000 in
set_option maxHeartbeats 4000000 in
theorem c27 {σ : St} {base : Nat} {a : AV} {l : List Int} (hs : Sl σ 1 a (ints l)) {x : Int} (hlen : l.length < 2^63) :
    callL Tryz.prog cfI 22 [a, .int .i64 x] σ base = some (.bool (decide (x ∈ l)), σ) := by
  have hv := hs.v
  have h := fun b' => c50 (σ := σ) (base := b') (x := x) hs hlen
  refine callL_pure (σ' := σ) (v := .bool (decide (x ∈ l))) Tryz.func22 rfl (by kernel_rfl) rfl rfl (by simp) ?_ rfl
  rw [z_body, ← idx_mem]
  generalize idx l x = q at *
  by_cases hq : 0 ≤ q
  · simp (config := { maxSteps := 4000000 }) only [Tryz.f22, go_sem, Nat.reduceBEq, Nat.reduceAdd, Nat.reduceSub, Nat.reduceEqDiff, Nat.reduceLeDiff, Nat.reduceMul, rgT, z_regionT, allocs, isv?, z_step, z_stepE, okDst, wantedA, evalOp, evalV, evalS, storeAt, look, ofV, ofC, putA, clearA, lookV, lookVs, lookParts, adrOk, baseAt, baseOf, loadAt, partA, binA, unA, resOf, mkRes, envOf, List.range, List.range.loop, evalBuiltin, liveW, regOf, startE, optN, mapGet, mapPut, orZero, keyOk, cellOk, decide_eq_true_eq, Bool.not_eq_true', decide_eq_false_iff_not, ite_not, not_true_eq_false, not_false_eq_true, reduceCtorEq, and_true, true_and, and_self, ge_iff_le, hv, h, hq, decide_true]
  · simp (config := { maxSteps := 4000000 }) only [Tryz.f22, go_sem, Nat.reduceBEq, Nat.reduceAdd, Nat.reduceSub, Nat.reduceEqDiff, Nat.reduceLeDiff, Nat.reduceMul, rgT, z_regionT, allocs, isv?, z_step, z_stepE, okDst, wantedA, evalOp, evalV, evalS, storeAt, look, ofV, ofC, putA, clearA, lookV, lookVs, lookParts, adrOk, baseAt, baseOf, loadAt, partA, binA, unA, resOf, mkRes, envOf, List.range, List.range.loop, evalBuiltin, liveW, regOf, startE, optN, mapGet, mapPut, orZero, keyOk, cellOk, decide_eq_true_eq, Bool.not_eq_true', decide_eq_false_iff_not, ite_not, not_true_eq_false, not_false_eq_true, reduceCtorEq, and_true, true_and, and_self, ge_iff_le, hv, h, hq, decide_false]

/-- Does an edge connect two facts? -/
def linkB (es : List ED) (fl : List (List PD)) (sd : List PD) (k : Nat) (a b : Int) : Bool :=
  if (a, b) ∈ fl.getD k [] then true else decide (a = 0) && decide (b ∈ seedsOf sd (eAt es k).2.1)

set_option maxRecDepth 100000 in
set_option maxHeartbeats 4000000 in
theorem c58 {σ : St} {base : Nat} {ns : List ND} {es : List ED} {m facts : Int} {fl : List (List PD)} {sd : List PD} {k : Nat} {a b : Int} (hsd : sd.length ≤ 1000000) (hk1 : k < fl.length) (hk2 : k < es.length) (hfl : (fl.getD k []).length < 2^63) :
    callL Tryz.prog cfI 24 [.agg (probC ns es m facts fl sd), .int .i64 k, .int .i64 a, .int .i64 b] σ base = some (.bool (linkB es fl sd k a b), σ) := by
  have hl : lenS (.list false 1 (fl.map flA)) = some fl.length := by simp [lenS]
  have hl2 : lenS (.list false 4 (es.map edgeA)) = some es.length := by simp [lenS]
  obtain ⟨y, _, hel, hget⟩ := drop_at flA hk1
  have heq : fl.getD k [] = y := by rw [List.getD_eq_getElem?_getD, hget]; rfl
  obtain ⟨⟨e1, e2, e3, e4⟩, _, hek, hgk⟩ := drop_at edgeA hk2
  have heq2 : eAt es k = (e1, e2, e3, e4) := by unfold eAt; rw [List.getD_eq_getElem?_getD, hgk]; rfl
  rw [heq] at hfl
  have h86 := fun b' => c86 (σ := σ) (base := b') (l := y) (a := a) (b := b) hfl
  have h57 := fun b' => c57 (σ := σ) (base := b') (ns := ns) (es := es) (m := m) (facts := facts) (fl := fl) (sd := sd) (n := e2) hsd
  have hsl : (seedsOf sd e2).length ≤ 1000000 := Nat.le_trans seedsOf_len hsd
  have h27 := fun b' => c27 (σ := σ) (base := b') (x := b) (acc_sl (σ := σ) (acc := seedsOf sd e2)) (by omega)
  have hav := (acc_sl (σ := σ) (acc := seedsOf sd e2)).v
  have k0 : (0 : Int) ≤ (k : Int) := by omega
  have k1 : (k : Int) < (fl.length : Int) := by omega
  have k2 : (k : Int) < (es.length : Int) := by omega
  refine callL_pure (σ' := σ) (v := .bool (linkB es fl sd k a b)) Tryz.func24 rfl (by kernel_rfl) rfl rfl (by simp) ?_ rfl
  rw [z_body]
  unfold linkB
  rw [heq, heq2]
  unfold probC at *
  replace hel : (fl.map flA)[k]? = some (.list false 2 (y.map pairA)) := hel
  replace hek : (es.map edgeA)[k]? = some (.agg [.int .i64 e1, .int .i64 e2, .int .i64 e3, .int .i64 e4]) := hek
  simp only
  clear hget hgk heq heq2
  generalize decide (b ∈ seedsOf sd e2) = t2 at *
  generalize accF (seedsOf sd e2) = V at *
  generalize ns.map nodeA = N at *
  generalize es.map edgeA = E at *
  generalize sd.map pairA = D at *
  generalize fl.map flA = F at *
  generalize y.map pairA = Y at *
  by_cases h1 : (a, b) ∈ y
  · rw [if_pos h1]
    rw [decide_eq_true h1] at h86
    simp (config := { maxSteps := 4000000 }) only [Tryz.f24, go_sem, Nat.reduceBEq, Nat.reduceAdd, Nat.reduceSub, Nat.reduceEqDiff, Nat.reduceLeDiff, Nat.reduceMul, rgT, z_regionT, allocs, isv?, z_step, z_stepE, okDst, wantedA, evalOp, evalV, evalS, storeAt, look, ofV, ofC, putA, clearA, lookV, lookVs, lookParts, adrOk, baseAt, baseOf, loadAt, partA, binA, unA, resOf, mkRes, envOf, List.range, List.range.loop, evalBuiltin, liveW, regOf, startE, optN, mapGet, mapPut, orZero, keyOk, cellOk, decide_eq_true_eq, Bool.not_eq_true', decide_eq_false_iff_not, ite_not, not_true_eq_false, not_false_eq_true, reduceCtorEq, and_true, true_and, and_self, hl, hl2, hel, hek, k0, k1, k2, h86]
  · rw [if_neg h1]
    rw [decide_eq_false h1] at h86
    by_cases h2 : a = 0
    · subst h2
      simp (config := { maxSteps := 4000000 }) only [Tryz.f24, go_sem, Nat.reduceBEq, Nat.reduceAdd, Nat.reduceSub, Nat.reduceEqDiff, Nat.reduceLeDiff, Nat.reduceMul, rgT, z_regionT, allocs, isv?, z_step, z_stepE, okDst, wantedA, evalOp, evalV, evalS, storeAt, look, ofV, ofC, putA, clearA, lookV, lookVs, lookParts, adrOk, baseAt, baseOf, loadAt, partA, binA, unA, resOf, mkRes, envOf, List.range, List.range.loop, evalBuiltin, liveW, regOf, startE, optN, mapGet, mapPut, orZero, keyOk, cellOk, decide_eq_true_eq, Bool.not_eq_true', decide_eq_false_iff_not, ite_not, not_true_eq_false, not_false_eq_true, reduceCtorEq, and_true, true_and, and_self, hl, hl2, hel, hek, k0, k1, k2, h86, h57, h27, hav, decide_true, Bool.true_and]
    · simp (config := { maxSteps := 4000000 }) only [Tryz.f24, go_sem, Nat.reduceBEq, Nat.reduceAdd, Nat.reduceSub, Nat.reduceEqDiff, Nat.reduceLeDiff, Nat.reduceMul, rgT, z_regionT, allocs, isv?, z_step, z_stepE, okDst, wantedA, evalOp, evalV, evalS, storeAt, look, ofV, ofC, putA, clearA, lookV, lookVs, lookParts, adrOk, baseAt, baseOf, loadAt, partA, binA, unA, resOf, mkRes, envOf, List.range, List.range.loop, evalBuiltin, liveW, regOf, startE, optN, mapGet, mapPut, orZero, keyOk, cellOk, decide_eq_true_eq, Bool.not_eq_true', decide_eq_false_iff_not, ite_not, not_true_eq_false, not_false_eq_true, reduceCtorEq, and_true, true_and, and_self, hl, hl2, hel, hek, k0, k1, k2, h86, h2, decide_false, Bool.false_and]

end Go.Can
