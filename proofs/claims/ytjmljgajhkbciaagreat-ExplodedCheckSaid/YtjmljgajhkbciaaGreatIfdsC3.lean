/- Contracts: the reference's searches in a supergraph. -/
import Derived.Test.YtjmljgajhkbciaaGreatIfdsC2
set_option linter.unusedSimpArgs false
set_option linter.unusedVariables false
namespace Go.Can
open Go Go.Proofs

def envS (n : Nat) (l : List (Nat × Slot)) : Env := (List.range n).map fun i => match l.lookup i with
  | some s => s
  | none => .top

theorem drop_at {α β : Type} {l : List α} {i : Nat} (f : α → β) (h : i < l.length) : ∃ y, l.drop i = y :: l.drop (i + 1) ∧ (l.map f)[i]? = some (f y) ∧ l[i]? = some y := ⟨l[i], by rw [List.drop_eq_getElem_cons h], by simp [h], by simp [h]⟩
theorem n_at {ns : List (Int × Int × Int)} {i : Nat} : (ns.map nodeA)[i]? = if i < ns.length then some (nodeA (ns.getD i (0, 0, 0))) else none := get_at
theorem e_at {es : List (Int × Int × Int × Int)} {i : Nat} : (es.map edgeA)[i]? = if i < es.length then some (edgeA (es.getD i (0, 0, 0, 0))) else none := get_at
theorem w_inc {i n : Nat} (h : i < n) (hn : n < 2^63) : IntKind.i64.wrap ((i : Int) + 1) = ((i + 1 : Nat) : Int) := by rw [wrap_i64] <;> omega

/-- The first node of a function of a kind, or -1. -/
def kindN (f k : Int) : List (Int × Int × Int) → Nat → Int
  | [], _ => -1
  | n :: l, i => if n.1 = f ∧ n.2.1 = k then i else kindN f k l (i + 1)

theorem kindN_ne {f k : Int} : ∀ {l : List (Int × Int × Int)} {i : Nat}, kindN f k l i = -1 ∨ 0 ≤ kindN f k l i
  | [], _ => .inl rfl
  | n :: l, i => by
    unfold kindN
    split
    · right; omega
    · exact kindN_ne

set_option maxRecDepth 100000 in
set_option maxHeartbeats 4000000 in
theorem c89 {σ : St} {base : Nat} {nv ev : AV} {ns : List (Int × Int × Int)} {m f k : Int} (hs : Sl σ 3 nv (ns.map nodeA)) (he : (Slot.val ev).v = some ev) (hlen : ns.length < 2^63) :
    callL Tryz.prog cfI 98 [.agg [nv, ev, .int .i64 m], .int .i64 f, .int .i64 k] σ base = some (.int .i64 (kindN f k ns 0), σ) := by
  have hl := hs.len
  have hv := hs.v
  have hel0 := hs.el
  rw [List.length_map] at hl
  have key : ∀ n (i : Nat), i + n = ns.length → loopM Tryz.prog cfI 98 σ.length (loopOf Tryz.f98 2) (envS 34 [(1, .val (.int .i64 f)), (2, .val (.int .i64 k)), (3, .var [nv, ev, .int .i64 m]), (7, .val (.int .i64 i))], σ) =
     if kindN f k (ns.drop i) i = -1 then some (.exit 0, envS 34 [], σ) else some (.ret, envS 34 [(6, .val (.int .i64 (kindN f k (ns.drop i) i)))], σ) := by
    intro n
    induction n with
    | zero =>
      intro i hi
      have hi' : ¬ ((i : Int) < ns.length) := by omega
      have hd : ns.drop i = [] := List.drop_eq_nil_of_le (by omega)
      rw [loopM_step (by kernel_rfl), hd]
      simp only [loopOf, findLoop, regOf, Option.getD, envOf, List.range, List.range.loop, go_sem, Nat.reduceBEq, Nat.reduceEqDiff, Option.some.injEq, reduceCtorEq, envS, Tryz.f98]
      simp only [go_sem, Nat.reduceBEq, Nat.reduceAdd, Nat.reduceSub, Nat.reduceEqDiff, Nat.reduceLeDiff, Nat.reduceMul, rgT, z_regionT, allocs, isv?, z_step, z_stepE, okDst, wantedA, evalOp, evalV, evalS, storeAt, look, ofV, ofC, putA, clearA, lookV, lookVs, lookParts, adrOk, baseAt, baseOf, loadAt, partA, binA, unA, resOf, mkRes, envOf, List.range, List.range.loop, evalBuiltin, liveW, regOf, startE, optN, mapGet, mapPut, orZero, keyOk, cellOk, decide_eq_true_eq, Bool.not_eq_true', decide_eq_false_iff_not, ite_not, not_true_eq_false, not_false_eq_true, reduceCtorEq, and_true, true_and, and_self, envS, hl, hv, hi', kindN]
    | succ n ih =>
      intro i hi
      have hlt : i < ns.length := by omega
      obtain ⟨⟨y1, y2, y3⟩, hd, hel, _⟩ := drop_at nodeA hlt
      have hw := w_inc hlt hlen
      have hlt' : (i : Int) < (ns.length : Int) := by omega
      have ih' := ih (i + 1) (by omega)
      rw [loopM_step (by kernel_rfl), hd]
      simp only [loopOf, findLoop, regOf, Option.getD, envOf, List.range, List.range.loop, go_sem, Nat.reduceBEq, Nat.reduceEqDiff, Option.some.injEq, reduceCtorEq, envS, Tryz.f98] at ih' ⊢
      unfold nodeA at hel hel0
      generalize List.map _ ns = A at *
      simp only [go_sem, Nat.reduceBEq, Nat.reduceAdd, Nat.reduceSub, Nat.reduceEqDiff, Nat.reduceLeDiff, Nat.reduceMul, rgT, z_regionT, allocs, isv?, z_step, z_stepE, okDst, wantedA, evalOp, evalV, evalS, storeAt, look, ofV, ofC, putA, clearA, lookV, lookVs, lookParts, adrOk, baseAt, baseOf, loadAt, partA, binA, unA, resOf, mkRes, envOf, List.range, List.range.loop, evalBuiltin, liveW, regOf, startE, optN, mapGet, mapPut, orZero, keyOk, cellOk, decide_eq_true_eq, Bool.not_eq_true', decide_eq_false_iff_not, ite_not, not_true_eq_false, not_false_eq_true, reduceCtorEq, and_true, true_and, and_self, envS, hl, hv, hel0, hlt', hel, hw, ih', kindN]
      (repeat' split) <;> simp_all <;> omega
  have key0 := key ns.length 0 (by omega)
  rw [show ((0 : Nat) : Int) = 0 from rfl, List.drop_zero] at key0
  refine callL_pure (σ' := σ) (v := .int .i64 (kindN f k ns 0)) Tryz.func98 rfl (by kernel_rfl) rfl rfl (by simp) ?_ rfl
  rw [z_body]
  simp only [loopOf, findLoop, regOf, Option.getD, envOf, List.range, List.range.loop, go_sem, Nat.reduceBEq, Nat.reduceEqDiff, Option.some.injEq, reduceCtorEq, envS, Tryz.f98] at key0
  simp only [Tryz.f98, go_sem, Nat.reduceBEq, Nat.reduceAdd, Nat.reduceSub, Nat.reduceEqDiff, Nat.reduceLeDiff, Nat.reduceMul, rgT, z_regionT, allocs, isv?, z_step, z_stepE, okDst, wantedA, evalOp, evalV, evalS, storeAt, look, ofV, ofC, putA, clearA, lookV, lookVs, lookParts, adrOk, baseAt, baseOf, loadAt, partA, binA, unA, resOf, mkRes, envOf, List.range, List.range.loop, evalBuiltin, liveW, regOf, startE, optN, mapGet, mapPut, orZero, keyOk, cellOk, decide_eq_true_eq, Bool.not_eq_true', decide_eq_false_iff_not, ite_not, not_true_eq_false, not_false_eq_true, reduceCtorEq, and_true, true_and, and_self, hv, he, key0]
  split
  · rename_i h; rw [h]
  · rfl

set_option maxRecDepth 100000 in
set_option maxHeartbeats 4000000 in
theorem c66 {σ : St} {base : Nat} {nv ev : AV} {ns : List (Int × Int × Int)} {m f : Int} (hs : Sl σ 3 nv (ns.map nodeA)) (he : (Slot.val ev).v = some ev) (hlen : ns.length < 2^63) :
    callL Tryz.prog cfI 84 [.agg [nv, ev, .int .i64 m], .int .i64 f] σ base = some (.int .i64 (kindN f 1 ns 0), σ) := by
  have hv := hs.v
  refine callL_pure (σ' := σ) (v := .int .i64 (kindN f 1 ns 0)) Tryz.func84 rfl (by kernel_rfl) rfl rfl (by simp) ?_ rfl
  rw [z_body]
  simp only [Tryz.f84, go_sem, Nat.reduceBEq, Nat.reduceAdd, Nat.reduceSub, Nat.reduceEqDiff, Nat.reduceLeDiff, Nat.reduceMul, rgT, z_regionT, allocs, isv?, z_step, z_stepE, okDst, wantedA, evalOp, evalV, evalS, storeAt, look, ofV, ofC, putA, clearA, lookV, lookVs, lookParts, adrOk, baseAt, baseOf, loadAt, partA, binA, unA, resOf, mkRes, envOf, List.range, List.range.loop, evalBuiltin, liveW, regOf, startE, optN, mapGet, mapPut, orZero, keyOk, cellOk, decide_eq_true_eq, Bool.not_eq_true', decide_eq_false_iff_not, ite_not, not_true_eq_false, not_false_eq_true, reduceCtorEq, and_true, true_and, and_self, hv, he, c89 hs he hlen]

set_option maxRecDepth 100000 in
set_option maxHeartbeats 4000000 in
theorem c65 {σ : St} {base : Nat} {nv ev : AV} {ns : List (Int × Int × Int)} {m f : Int} (hs : Sl σ 3 nv (ns.map nodeA)) (he : (Slot.val ev).v = some ev) (hlen : ns.length < 2^63) :
    callL Tryz.prog cfI 83 [.agg [nv, ev, .int .i64 m], .int .i64 f] σ base = some (.tup [.int .i64 (kindN f 3 ns 0), .int .i64 (kindN f 4 ns 0)], σ) := by
  have hv := hs.v
  refine callL_pure (σ' := σ) (v := .tup [.int .i64 (kindN f 3 ns 0), .int .i64 (kindN f 4 ns 0)]) Tryz.func83 rfl (by kernel_rfl) rfl rfl (by simp) ?_ rfl
  rw [z_body]
  simp only [Tryz.f83, go_sem, Nat.reduceBEq, Nat.reduceAdd, Nat.reduceSub, Nat.reduceEqDiff, Nat.reduceLeDiff, Nat.reduceMul, rgT, z_regionT, allocs, isv?, z_step, z_stepE, okDst, wantedA, evalOp, evalV, evalS, storeAt, look, ofV, ofC, putA, clearA, lookV, lookVs, lookParts, adrOk, baseAt, baseOf, loadAt, partA, binA, unA, resOf, mkRes, envOf, List.range, List.range.loop, evalBuiltin, liveW, regOf, startE, optN, mapGet, mapPut, orZero, keyOk, cellOk, decide_eq_true_eq, Bool.not_eq_true', decide_eq_false_iff_not, ite_not, not_true_eq_false, not_false_eq_true, reduceCtorEq, and_true, true_and, and_self, hv, he, c89 hs he hlen]

/-- The node is there, is a start, and of this function. -/
def startsAt (ns : List (Int × Int × Int)) (to f : Int) : Bool := decide (0 ≤ to ∧ to < ns.length ∧ (ns.getD to.toNat (0, 0, 0)).1 = f ∧ (ns.getD to.toNat (0, 0, 0)).2.1 = 1)
/-- The edge calls the function from this node. -/
def callB (ns : List (Int × Int × Int)) (c f : Int) (e : Int × Int × Int × Int) : Bool := decide (e.2.2.1 = 2 ∧ e.1 = c) && startsAt ns e.2.1 f

set_option maxRecDepth 100000 in
set_option maxHeartbeats 4000000 in
theorem c67 {σ : St} {base : Nat} {nv ev : AV} {ns : List (Int × Int × Int)} {es : List (Int × Int × Int × Int)} {m c f : Int} (hs : Sl σ 3 nv (ns.map nodeA)) (he : Sl σ 4 ev (es.map edgeA)) (hlen : es.length < 2^63) :
    callL Tryz.prog cfI 85 [.agg [nv, ev, .int .i64 m], .int .i64 c, .int .i64 f] σ base = some (.bool (es.any (callB ns c f)), σ) := by
  have hl := hs.len
  have hv := hs.v
  have hel0 := hs.el
  have hl2 := he.len
  have hv2 := he.v
  have hel2 := he.el
  rw [List.length_map] at hl hl2
  have key : ∀ n (i : Nat), i + n = es.length → loopM Tryz.prog cfI 85 σ.length (loopOf Tryz.f85 2) (envS 64 [(1, .val (.int .i64 c)), (2, .val (.int .i64 f)), (3, .var [nv, ev, .int .i64 m]), (7, .val (.int .i64 i))], σ) =
     if (es.drop i).any (callB ns c f) = true then some (.ret, envS 64 [(6, .val (.bool true))], σ) else some (.exit 0, envS 64 [], σ) := by
    intro n
    induction n with
    | zero =>
      intro i hi
      have hi' : ¬ ((i : Int) < es.length) := by omega
      have hd : es.drop i = [] := List.drop_eq_nil_of_le (by omega)
      rw [loopM_step (by kernel_rfl), hd]
      simp only [loopOf, findLoop, regOf, Option.getD, envOf, List.range, List.range.loop, go_sem, Nat.reduceBEq, Nat.reduceEqDiff, Option.some.injEq, reduceCtorEq, envS, Tryz.f85]
      simp only [go_sem, Nat.reduceBEq, Nat.reduceAdd, Nat.reduceSub, Nat.reduceEqDiff, Nat.reduceLeDiff, Nat.reduceMul, rgT, z_regionT, allocs, isv?, z_step, z_stepE, okDst, wantedA, evalOp, evalV, evalS, storeAt, look, ofV, ofC, putA, clearA, lookV, lookVs, lookParts, adrOk, baseAt, baseOf, loadAt, partA, binA, unA, resOf, mkRes, envOf, List.range, List.range.loop, evalBuiltin, liveW, regOf, startE, optN, mapGet, mapPut, orZero, keyOk, cellOk, decide_eq_true_eq, Bool.not_eq_true', decide_eq_false_iff_not, ite_not, not_true_eq_false, not_false_eq_true, reduceCtorEq, and_true, true_and, and_self, envS, hl2, hv2, hi', List.any_nil]
    | succ n ih =>
      intro i hi
      have hlt : i < es.length := by omega
      obtain ⟨⟨y1, y2, y3, y4⟩, hd, hel, _⟩ := drop_at edgeA hlt
      have hw := w_inc hlt hlen
      have hlt' : (i : Int) < (es.length : Int) := by omega
      have ih' := ih (i + 1) (by omega)
      rw [loopM_step (by kernel_rfl), hd]
      simp only [loopOf, findLoop, regOf, Option.getD, envOf, List.range, List.range.loop, go_sem, Nat.reduceBEq, Nat.reduceEqDiff, Option.some.injEq, reduceCtorEq, envS, Tryz.f85] at ih' ⊢
      unfold edgeA at hel hel2
      generalize List.map _ es = A at *
      by_cases hin : 0 ≤ y2 ∧ y2 < (ns.length : Int)
      · obtain ⟨h0, h1⟩ := hin
        have h2 : y2.toNat < ns.length := by omega
        have hn : (ns.map nodeA)[y2.toNat]? = some (nodeA (ns.getD y2.toNat (0, 0, 0))) := by rw [n_at, if_pos h2]
        have hc : callB ns c f (y1, y2, y3, y4) = decide (y3 = 2 ∧ y1 = c ∧ (ns.getD y2.toNat (0, 0, 0)).1 = f ∧ (ns.getD y2.toNat (0, 0, 0)).2.1 = 1) := by
          unfold callB startsAt
          simp only [h0, h1, true_and, Bool.decide_and, Bool.and_assoc]
        rw [List.any_cons, hc]
        generalize ns.getD y2.toNat (0, 0, 0) = q at *
        obtain ⟨q1, q2, q3⟩ := q
        unfold nodeA at hn hel0
        generalize List.map _ ns = B at *
        simp (config := { maxSteps := 4000000 }) only [go_sem, Nat.reduceBEq, Nat.reduceAdd, Nat.reduceSub, Nat.reduceEqDiff, Nat.reduceLeDiff, Nat.reduceMul, rgT, z_regionT, allocs, isv?, z_step, z_stepE, okDst, wantedA, evalOp, evalV, evalS, storeAt, look, ofV, ofC, putA, clearA, lookV, lookVs, lookParts, adrOk, baseAt, baseOf, loadAt, partA, binA, unA, resOf, mkRes, envOf, List.range, List.range.loop, evalBuiltin, liveW, regOf, startE, optN, mapGet, mapPut, orZero, keyOk, cellOk, decide_eq_true_eq, Bool.not_eq_true', decide_eq_false_iff_not, ite_not, not_true_eq_false, not_false_eq_true, reduceCtorEq, and_true, true_and, and_self, envS, hl, hl2, hv, hv2, hel0, hel2, hlt', hel, hw, ih', h0, h1, hn, ge_iff_le]
        clear ih ih' hel hn hel0 hel2
        generalize (List.drop (i + 1) es).any _ = b
        cases b <;> simp only [Bool.or_true, Bool.or_false, decide_eq_true_eq, if_true, ite_self, Bool.false_eq_true, if_false] <;> (repeat' split) <;> first | rfl | omega
      · have hc : callB ns c f (y1, y2, y3, y4) = false := by
          unfold callB startsAt
          rw [Bool.and_eq_false_iff]
          right
          rw [decide_eq_false_iff_not]
          intro h
          exact hin ⟨h.1, h.2.1⟩
        rw [List.any_cons, hc, Bool.false_or]
        by_cases h0 : 0 ≤ y2
        · have h1 : ¬ y2 < (ns.length : Int) := fun h => hin ⟨h0, h⟩
          simp only [go_sem, Nat.reduceBEq, Nat.reduceAdd, Nat.reduceSub, Nat.reduceEqDiff, Nat.reduceLeDiff, Nat.reduceMul, rgT, z_regionT, allocs, isv?, z_step, z_stepE, okDst, wantedA, evalOp, evalV, evalS, storeAt, look, ofV, ofC, putA, clearA, lookV, lookVs, lookParts, adrOk, baseAt, baseOf, loadAt, partA, binA, unA, resOf, mkRes, envOf, List.range, List.range.loop, evalBuiltin, liveW, regOf, startE, optN, mapGet, mapPut, orZero, keyOk, cellOk, decide_eq_true_eq, Bool.not_eq_true', decide_eq_false_iff_not, ite_not, not_true_eq_false, not_false_eq_true, reduceCtorEq, and_true, true_and, and_self, envS, hl, hl2, hv, hv2, hel0, hel2, hlt', hel, hw, ih', h0, h1, ge_iff_le, ite_self]
        · simp only [go_sem, Nat.reduceBEq, Nat.reduceAdd, Nat.reduceSub, Nat.reduceEqDiff, Nat.reduceLeDiff, Nat.reduceMul, rgT, z_regionT, allocs, isv?, z_step, z_stepE, okDst, wantedA, evalOp, evalV, evalS, storeAt, look, ofV, ofC, putA, clearA, lookV, lookVs, lookParts, adrOk, baseAt, baseOf, loadAt, partA, binA, unA, resOf, mkRes, envOf, List.range, List.range.loop, evalBuiltin, liveW, regOf, startE, optN, mapGet, mapPut, orZero, keyOk, cellOk, decide_eq_true_eq, Bool.not_eq_true', decide_eq_false_iff_not, ite_not, not_true_eq_false, not_false_eq_true, reduceCtorEq, and_true, true_and, and_self, envS, hl, hl2, hv, hv2, hel0, hel2, hlt', hel, hw, ih', h0, ge_iff_le, ite_self]
  have key0 := key es.length 0 (by omega)
  rw [show ((0 : Nat) : Int) = 0 from rfl, List.drop_zero] at key0
  refine callL_pure (σ' := σ) (v := .bool (es.any (callB ns c f))) Tryz.func85 rfl (by kernel_rfl) rfl rfl (by simp) ?_ rfl
  rw [z_body]
  simp only [loopOf, findLoop, regOf, Option.getD, envOf, List.range, List.range.loop, go_sem, Nat.reduceBEq, Nat.reduceEqDiff, Option.some.injEq, reduceCtorEq, envS, Tryz.f85] at key0
  simp only [Tryz.f85, go_sem, Nat.reduceBEq, Nat.reduceAdd, Nat.reduceSub, Nat.reduceEqDiff, Nat.reduceLeDiff, Nat.reduceMul, rgT, z_regionT, allocs, isv?, z_step, z_stepE, okDst, wantedA, evalOp, evalV, evalS, storeAt, look, ofV, ofC, putA, clearA, lookV, lookVs, lookParts, adrOk, baseAt, baseOf, loadAt, partA, binA, unA, resOf, mkRes, envOf, List.range, List.range.loop, evalBuiltin, liveW, regOf, startE, optN, mapGet, mapPut, orZero, keyOk, cellOk, decide_eq_true_eq, Bool.not_eq_true', decide_eq_false_iff_not, ite_not, not_true_eq_false, not_false_eq_true, reduceCtorEq, and_true, true_and, and_self, hv, hv2, key0]
  split
  · rename_i h; rw [h]
  · rename_i h; rw [Bool.not_eq_true] at h; rw [h]

end Go.Can
