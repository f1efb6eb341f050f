/- Contracts: the reference's Least and Without. -/
import Derived.Test.YtgpopkpepebibaaWorkJ
set_option linter.unusedSimpArgs false
set_option linter.unusedVariables false
namespace Go.Can
open Go Go.Proofs

/-- What stands ahead of all others. -/
def leastF (rank : List Int) : Int → List Int → Int
  | x, [] => x
  | x, y :: ys => leastF rank (if (rank.length : Int) > 0 ∧ bef rank y x = true then y else x) ys

set_option maxRecDepth 100000 in
set_option maxHeartbeats 4000000 in
theorem c11_loop {σ : St} {base : Nat} {r it : AV} {rank items : List Int} (hr : Sl σ 1 r (ints rank)) (hi : Sl σ 1 it (ints items)) (hlen : items.length < 2^62) (hf : ∀ y ∈ items, fitB rank y = true) :
    ∀ (rest pre : List Int) (x : Int), fitB rank x = true → items = pre ++ rest →
      loopM Try.prog cfW 11 base (loopOf Try.f11 3) (envS 33 [(0, .val r), (1, .val it), (5, .val (.int .i64 x)), (6, .val (.int .i64 pre.length))], σ) =
        some (.exit 0, envS 33 [(5, .val (.int .i64 (leastF rank x rest)))], σ) := by
  have rl := hr.len
  have rv := hr.v
  have re := hr.el
  have il := hi.len
  have iv := hi.v
  have ie := hi.el
  rw [ints_len] at rl il
  intro rest
  induction rest with
  | nil =>
    intro pre x hx he
    have hlt : ¬ ((pre.length : Int) < items.length) := by rw [he]; simp
    rw [loopM_step (by rfl)]
    simp only [envS, loopOf, findLoop, regOf, Option.getD, envOf, List.range, List.range.loop, go_sem, Nat.reduceBEq, Try.f11]
    simp only [go_sem, Nat.reduceBEq, Nat.reduceAdd, Nat.reduceSub, Nat.reduceEqDiff, Nat.reduceLeDiff, Nat.reduceMul, rgT, regionT, cfVars, cfKeep, allocs, isv?, stepO, okDst, wantedA, evalOp, evalV, evalS, storeAt, look, ofV, ofC, putA, clearA, lookV, lookVs, lookParts, adrOk, baseAt, baseOf, loadAt, partA, binA, unA, resOf, mkRes, envOf, List.range, List.range.loop, evalBuiltin, liveW, cfLive, cfOut, cfRes, regOf, startE, optN, mapGet, mapPut, orZero, keyOk, cellOk, rl, rv, il, iv, hlt, leastF]
  | cons y rest ih =>
    intro pre x hx he
    have hlt : ((pre.length : Int) < items.length) = True := by rw [he]; simp; omega
    have hget : (ints items)[pre.length]? = some (.int .i64 y) := by rw [he]; simp [ints]
    have hw : IntKind.i64.wrap ((pre.length : Int) + 1) = (((pre ++ [y]).length : Nat) : Int) := by
      have : pre.length < items.length := by rw [he]; simp
      rw [wrap_i64] <;> simp <;> omega
    have hyf : fitB rank y = true := hf y (by rw [he]; simp)
    rw [loopM_step (by rfl)]
    have ihx := ih (pre ++ [y]) x hx (by rw [he]; simp)
    have ihy := ih (pre ++ [y]) y hyf (by rw [he]; simp)
    unfold leastF
    simp only [envS, loopOf, findLoop, regOf, Option.getD, envOf, List.range, List.range.loop, go_sem, Nat.reduceBEq, Try.f11] at ihx ihy ⊢
    by_cases h1 : (rank.length : Int) > 0
    · have hbef := c24 (base := base) hr (fit_range hyf h1) (fit_range hx h1)
      by_cases h2 : bef rank y x = true
      · simp only [go_sem, Nat.reduceBEq, Nat.reduceAdd, Nat.reduceSub, Nat.reduceEqDiff, Nat.reduceLeDiff, Nat.reduceMul, rgT, regionT, cfVars, cfKeep, allocs, isv?, stepO, okDst, wantedA, evalOp, evalV, evalS, storeAt, look, ofV, ofC, putA, clearA, lookV, lookVs, lookParts, adrOk, baseAt, baseOf, loadAt, partA, binA, unA, resOf, mkRes, envOf, List.range, List.range.loop, evalBuiltin, liveW, cfLive, cfOut, cfRes, regOf, startE, optN, mapGet, mapPut, orZero, keyOk, cellOk, rl, rv, re, il, iv, ie, hlt, hget, h1, hbef, h2, hw, ihy, and_self, if_true]
      · have h2' : bef rank y x = false := by simpa using h2
        simp only [go_sem, Nat.reduceBEq, Nat.reduceAdd, Nat.reduceSub, Nat.reduceEqDiff, Nat.reduceLeDiff, Nat.reduceMul, rgT, regionT, cfVars, cfKeep, allocs, isv?, stepO, okDst, wantedA, evalOp, evalV, evalS, storeAt, look, ofV, ofC, putA, clearA, lookV, lookVs, lookParts, adrOk, baseAt, baseOf, loadAt, partA, binA, unA, resOf, mkRes, envOf, List.range, List.range.loop, evalBuiltin, liveW, cfLive, cfOut, cfRes, regOf, startE, optN, mapGet, mapPut, orZero, keyOk, cellOk, rl, rv, re, il, iv, ie, hlt, hget, h1, hbef, h2', hw, ihx, and_false, if_false, Bool.false_eq_true]
    · simp only [go_sem, Nat.reduceBEq, Nat.reduceAdd, Nat.reduceSub, Nat.reduceEqDiff, Nat.reduceLeDiff, Nat.reduceMul, rgT, regionT, cfVars, cfKeep, allocs, isv?, stepO, okDst, wantedA, evalOp, evalV, evalS, storeAt, look, ofV, ofC, putA, clearA, lookV, lookVs, lookParts, adrOk, baseAt, baseOf, loadAt, partA, binA, unA, resOf, mkRes, envOf, List.range, List.range.loop, evalBuiltin, liveW, cfLive, cfOut, cfRes, regOf, startE, optN, mapGet, mapPut, orZero, keyOk, cellOk, rl, rv, re, il, iv, ie, hlt, hget, h1, hw, ihx, false_and, if_false]

set_option maxRecDepth 100000 in
set_option maxHeartbeats 4000000 in
theorem c11 {σ : St} {base : Nat} {r it : AV} {rank items : List Int} {x : Int} (hr : Sl σ 1 r (ints rank)) (hi : Sl σ 1 it (ints (x :: items))) (hlen : items.length < 2^61) (hf : ∀ y ∈ x :: items, fitB rank y = true) :
    callL Try.prog cfW 11 [r, it] σ base = some (.int .i64 (leastF rank x items), σ) := by
  have rv := hr.v
  have il := hi.len
  have iv := hi.v
  have ie := hi.el
  have key := c11_loop (base := σ.length) hr hi (by simp; omega) hf items [x] x (hf x (by simp)) rfl
  have hget : (ints (x :: items))[(0 : Int).toNat]? = some (.int .i64 x) := rfl
  rw [ints_len] at il
  have hlt : ((0 : Int) < (((x :: items).length : Nat) : Int)) = True := by rw [List.length_cons]; simp
  have h00 : ((0 : Int) ≤ 0) = True := by simp
  refine callL_pure (σ' := σ) (v := .int .i64 (leastF rank x items)) Try.func11 rfl (by kernel_rfl) rfl rfl (by simp) ?_ rfl
  rw [show (([x] : List Int).length : Int) = 1 from rfl] at key
  simp only [envS, loopOf, findLoop, regOf, Option.getD, envOf, List.range, List.range.loop, go_sem, Nat.reduceBEq, Try.f11] at key
  unfold bodyT
  generalize (x :: items).length = n at *
  simp only [Try.f11, go_sem, Nat.reduceBEq, Nat.reduceAdd, Nat.reduceSub, Nat.reduceEqDiff, Nat.reduceLeDiff, Nat.reduceMul, rgT, regionT, cfVars, cfKeep, allocs, isv?, stepO, okDst, wantedA, evalOp, evalV, evalS, storeAt, look, ofV, ofC, putA, clearA, lookV, lookVs, lookParts, adrOk, baseAt, baseOf, loadAt, partA, binA, unA, resOf, mkRes, envOf, List.range, List.range.loop, evalBuiltin, liveW, cfLive, cfOut, cfRes, regOf, startE, optN, mapGet, mapPut, orZero, keyOk, cellOk, rv, il, iv, ie, hlt, hget, h00, key]

def wout (n : Nat) : List Int → AV
  | [] => .list true 0 []
  | x :: xs => .row 1 n (x :: xs).length 0 (x :: xs).length false

def wst (σ : St) : List Int → St
  | [] => σ
  | x :: xs => σ ++ [.row 1 (ints (x :: xs))]

/-- A list without an item. -/
def wo (x : Int) (l : List Int) : List Int := l.filter fun y => decide (y ≠ x)

set_option maxRecDepth 100000 in
set_option maxHeartbeats 4000000 in
theorem c12_loop {σ : St} {it : AV} {items : List Int} {x : Int} (hi : Slw σ it items) (hlen : items.length < 2^40) :
    ∀ (rest pre out : List Int), items = pre ++ rest → out.length ≤ pre.length →
      loopM Try.prog cfW 12 σ.length (loopOf Try.f12 3) (envS 27 [(0, .val it), (1, .val (.int .i64 x)), (5, .val (wout σ.length out)), (6, .val (.int .i64 pre.length))], wst σ out) =
        some (.exit 0, envS 27 [(5, .val (wout σ.length (out ++ wo x rest)))], wst σ (out ++ wo x rest)) := by
  have il := hi.here.len
  have iv := hi.here.v
  have ie := hi.here.el
  rw [ints_len] at il
  intro rest
  induction rest with
  | nil =>
    intro pre out he ho
    have hlt : ¬ ((pre.length : Int) < items.length) := by rw [he]; simp
    have e : out ++ wo x [] = out := by simp [wo]
    rw [e]
    rw [loopM_step (by rfl)]
    simp only [envS, loopOf, findLoop, regOf, Option.getD, envOf, List.range, List.range.loop, go_sem, Nat.reduceBEq, Try.f12]
    simp only [go_sem, Nat.reduceBEq, Nat.reduceAdd, Nat.reduceSub, Nat.reduceEqDiff, Nat.reduceLeDiff, Nat.reduceMul, rgT, regionT, cfVars, cfKeep, allocs, isv?, stepO, okDst, wantedA, evalOp, evalV, evalS, storeAt, look, ofV, ofC, putA, clearA, lookV, lookVs, lookParts, adrOk, baseAt, baseOf, loadAt, partA, binA, unA, resOf, mkRes, envOf, List.range, List.range.loop, evalBuiltin, liveW, cfLive, cfOut, cfRes, regOf, startE, optN, mapGet, mapPut, orZero, keyOk, cellOk, il, iv, hlt]
  | cons y rest ih =>
    intro pre out he ho
    have hlt : ((pre.length : Int) < items.length) = True := by rw [he]; simp; omega
    have hget : (ints items)[pre.length]? = some (.int .i64 y) := by rw [he]; simp [ints]
    have hpl : pre.length < items.length := by rw [he]; simp
    have hw : IntKind.i64.wrap ((pre.length : Int) + 1) = (((pre ++ [y]).length : Nat) : Int) := by
      rw [wrap_i64] <;> simp <;> omega
    rw [loopM_step (by rfl)]
    by_cases h1 : y = x
    · have e : wo x (y :: rest) = wo x rest := by simp [wo, h1]
      have ih' := ih (pre ++ [y]) out (by rw [he]; simp) (by simp; omega)
      rw [e]
      simp only [envS, loopOf, findLoop, regOf, Option.getD, envOf, List.range, List.range.loop, go_sem, Nat.reduceBEq, Try.f12] at ih' ⊢
      cases out with
      | nil =>
        simp only [wout, wst] at ih' ⊢
        simp only [go_sem, Nat.reduceBEq, Nat.reduceAdd, Nat.reduceSub, Nat.reduceEqDiff, Nat.reduceLeDiff, Nat.reduceMul, rgT, regionT, cfVars, cfKeep, allocs, isv?, stepO, okDst, wantedA, evalOp, evalV, evalS, storeAt, look, ofV, ofC, putA, clearA, lookV, lookVs, lookParts, adrOk, baseAt, baseOf, loadAt, partA, binA, unA, resOf, mkRes, envOf, List.range, List.range.loop, evalBuiltin, liveW, cfLive, cfOut, cfRes, regOf, startE, optN, mapGet, mapPut, orZero, keyOk, cellOk, il, iv, ie, hlt, hget, h1, hw, ih', not_true_eq_false]
      | cons z zs =>
        have ie2 := (hi.sl [.row 1 (ints (z :: zs))]).el
        simp only [wout, wst] at ih' ⊢
        generalize (z :: zs).length = n at *
        simp only [go_sem, Nat.reduceBEq, Nat.reduceAdd, Nat.reduceSub, Nat.reduceEqDiff, Nat.reduceLeDiff, Nat.reduceMul, rgT, regionT, cfVars, cfKeep, allocs, isv?, stepO, okDst, wantedA, evalOp, evalV, evalS, storeAt, look, ofV, ofC, putA, clearA, lookV, lookVs, lookParts, adrOk, baseAt, baseOf, loadAt, partA, binA, unA, resOf, mkRes, envOf, List.range, List.range.loop, evalBuiltin, liveW, cfLive, cfOut, cfRes, regOf, startE, optN, mapGet, mapPut, orZero, keyOk, cellOk, il, iv, ie2, hlt, hget, h1, hw, ih', not_true_eq_false]
    · have e : wo x (y :: rest) = y :: wo x rest := by simp [wo, h1]
      have ih' := ih (pre ++ [y]) (out ++ [y]) (by rw [he]; simp) (by simp; omega)
      have e2 : out ++ [y] ++ wo x rest = out ++ y :: wo x rest := by simp
      rw [e]
      rw [e2] at ih'
      simp only [envS, loopOf, findLoop, regOf, Option.getD, envOf, List.range, List.range.loop, go_sem, Nat.reduceBEq, Try.f12] at ih' ⊢
      cases out with
      | nil =>
        have hap := append_fresh (base := σ.length) (σ := σ) (sz := 1) (bytes := 8) (s := 0) (ys := [AV.int .i64 y]) (by simp) (by omega)
        have i1 : ints [y] = [AV.int .i64 y] := rfl
        simp only [List.nil_append, wout, wst, i1, go_sem] at ih' ⊢ hap
        simp only [go_sem, Nat.reduceBEq, Nat.reduceAdd, Nat.reduceSub, Nat.reduceEqDiff, Nat.reduceLeDiff, Nat.reduceMul, rgT, regionT, cfVars, cfKeep, allocs, isv?, stepO, okDst, wantedA, evalOp, evalV, evalS, storeAt, look, ofV, ofC, putA, clearA, lookV, lookVs, lookParts, adrOk, baseAt, baseOf, loadAt, partA, binA, unA, resOf, mkRes, envOf, List.range, List.range.loop, evalBuiltin, liveW, cfLive, cfOut, cfRes, regOf, startE, optN, mapGet, mapPut, orZero, keyOk, cellOk, il, iv, ie, hlt, hget, h1, hw, hap, ih', not_false_eq_true]
      | cons z zs =>
        have ie2 := (hi.sl [.row 1 (ints (z :: zs))]).el
        have hap := append_row (base := σ.length) (σ := σ ++ [.row 1 (ints (z :: zs))]) (id := σ.length) (sz := 1) (bytes := 8) (xs := ints (z :: zs)) (ys := [.int .i64 y]) (by simp) (Nat.le_refl _) (by rw [ints_len]; simp at ho ⊢; omega) (by omega)
        have i2 : ints (z :: zs ++ [y]) = ints (z :: zs) ++ [AV.int .i64 y] := by simp [ints]
        have i3 : (z :: zs ++ [y]).length = (ints (z :: zs)).length + (0 + 1) := by simp [ints]
        have i4 : (ints (z :: zs)).length = (z :: zs).length := ints_len
        have w1 : ∀ l, wout σ.length (z :: zs ++ l) = .row 1 σ.length (z :: zs ++ l).length 0 (z :: zs ++ l).length false := fun _ => rfl
        have w2 : ∀ l, wst σ (z :: zs ++ l) = σ ++ [.row 1 (ints (z :: zs ++ l))] := fun _ => rfl
        have w3 : wout σ.length (z :: zs) = .row 1 σ.length (z :: zs).length 0 (z :: zs).length false := rfl
        have w4 : wst σ (z :: zs) = σ ++ [.row 1 (ints (z :: zs))] := rfl
        simp only [w1, w2, w3, w4, i2, i3, i4] at ih' ⊢ hap
        generalize (z :: zs).length = n at *
        generalize ints (z :: zs) = zz at *
        generalize (z :: zs ++ y :: wo x rest) = ww at *
        simp only [go_sem, Nat.zero_add] at hap
        simp only [Nat.zero_add] at ih'
        simp only [go_sem, Nat.reduceBEq, Nat.reduceAdd, Nat.reduceSub, Nat.reduceEqDiff, Nat.reduceLeDiff, Nat.reduceMul, rgT, regionT, cfVars, cfKeep, allocs, isv?, stepO, okDst, wantedA, evalOp, evalV, evalS, storeAt, look, ofV, ofC, putA, clearA, lookV, lookVs, lookParts, adrOk, baseAt, baseOf, loadAt, partA, binA, unA, resOf, mkRes, envOf, List.range, List.range.loop, evalBuiltin, liveW, cfLive, cfOut, cfRes, regOf, startE, optN, mapGet, mapPut, orZero, keyOk, cellOk, il, iv, ie2, hlt, hget, h1, hw, hap, ih', not_false_eq_true]

set_option maxRecDepth 100000 in
set_option maxHeartbeats 4000000 in
theorem c12 {σ : St} {base : Nat} {it : AV} {items : List Int} {x : Int} (hi : Slw σ it items) (hlen : items.length < 2^40) :
    callL Try.prog cfW 12 [it, .int .i64 x] σ base = some (wout σ.length (wo x items), wst σ (wo x items)) := by
  have iv := hi.here.v
  have key := c12_loop (x := x) hi hlen items [] [] rfl (Nat.le_refl _)
  have wv : ∀ n l, (Slot.val (wout n l)).v = some (wout n l) := fun n l => by cases l <;> rfl
  refine callL_body Try.func12 rfl (by kernel_rfl) rfl rfl ?_
  show bodyT Try.prog cfW 12 Try.f12 _ _ _ σ.length = _
  rw [show wout σ.length [] = .list true 0 [] from rfl, show wst σ [] = σ from rfl, List.nil_append, show ((([] : List Int).length : Nat) : Int) = 0 from rfl] at key
  simp only [envS, loopOf, findLoop, regOf, Option.getD, envOf, List.range, List.range.loop, go_sem, Nat.reduceBEq, Try.f12] at key
  unfold bodyT
  simp only [Try.f12, go_sem, Nat.reduceBEq, Nat.reduceAdd, Nat.reduceSub, Nat.reduceEqDiff, Nat.reduceLeDiff, Nat.reduceMul, rgT, regionT, cfVars, cfKeep, allocs, isv?, stepO, okDst, wantedA, evalOp, evalV, evalS, storeAt, look, ofV, ofC, putA, clearA, lookV, lookVs, lookParts, adrOk, baseAt, baseOf, loadAt, partA, binA, unA, resOf, mkRes, envOf, List.range, List.range.loop, evalBuiltin, liveW, cfLive, cfOut, cfRes, regOf, startE, optN, mapGet, mapPut, orZero, keyOk, cellOk, iv, key, wv]

end Go.Can
