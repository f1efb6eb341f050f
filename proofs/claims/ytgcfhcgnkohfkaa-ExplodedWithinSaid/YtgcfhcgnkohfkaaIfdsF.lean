/- Contracts: Within, the reference's. -/
import Derived.Test.YtgcfhcgnkohfkaaIfdsE
set_option linter.unusedSimpArgs false
set_option linter.unusedVariables false
namespace Go.Can
open Go Go.Proofs

section
variable {σ : St} {base : Nat} {ra fa rb fb : AV} {bs bs2 : List Bool} {fs fs2 : List (List Int)}

set_option maxRecDepth 100000 in
set_option maxHeartbeats 4000000 in
theorem c18_1 (hra : Sl σ 1 ra (bs.map .bool)) (hfa : Sl σ 1 fa (fs.map iL)) (hrb : Sl σ 1 rb (bs2.map .bool)) (hfb : Sl σ 1 fb (fs2.map iL)) (hlen : bs.length < 2^63)
    (hh : ∀ base n d, callL Try.prog cfI 11 [.agg [rb, fb], .int .i64 n, .int .i64 d] σ base = some (.bool (holdsB bs2 fs2 n d), σ)) :
    ∀ (rest pre : List Bool), bs = pre ++ rest →
      loopM Try.prog cfI 18 base (loopOf Try.f18 2) (envS 65 [(2, .var [ra, fa]), (3, .var [rb, fb]), (5, .val (.int .i64 pre.length))], σ) =
        if w1 bs2 fs2 rest pre.length = true then some (.exit 0, envS 65 [(2, .var [ra, fa]), (3, .var [rb, fb])], σ) else some (.ret, envS 65 [(4, .val (.bool false))], σ) := by
  have rv := hra.v
  have rl := hra.len
  have re := hra.el
  have rc := hra.cells
  have fc := hfa.cells
  have rbc := hrb.cells
  have fbc := hfb.cells
  rw [List.length_map] at rl
  intro rest
  induction rest with
  | nil =>
    intro pre he
    have hlt : ¬ ((pre.length : Int) < bs.length) := by rw [he]; simp
    rw [loopM_step (by kernel_rfl), show w1 bs2 fs2 [] pre.length = true from rfl, if_pos rfl]
    simp only [envS, loopOf, findLoop, regOf, Option.getD, envOf, List.range, List.range.loop, go_sem, Nat.reduceBEq, Nat.reduceEqDiff, Option.some.injEq, reduceCtorEq, Try.f18]
    simp only [go_sem, Nat.reduceBEq, Nat.reduceAdd, Nat.reduceSub, Nat.reduceEqDiff, Nat.reduceLeDiff, Nat.reduceMul, rgT, regionT, allocs, isv?, stepO, okDst, wantedA, evalOp, evalV, evalS, storeAt, look, ofV, ofC, putA, clearA, lookV, lookVs, lookParts, adrOk, baseAt, baseOf, loadAt, partA, binA, unA, resOf, mkRes, envOf, List.range, List.range.loop, evalBuiltin, liveW, regOf, startE, optN, mapGet, mapPut, orZero, keyOk, cellOk, rv, rl, rc, fc, rbc, fbc, hlt]
  | cons b rest ih =>
    intro pre he
    have hl2 : bs.length = pre.length + (rest.length + 1) := by rw [he]; simp
    have hlt : ((pre.length : Int) < bs.length) = True := by simp; omega
    have hget : (bs.map AV.bool)[pre.length]? = some (.bool b) := by rw [he]; simp
    have hp0 : ((0 : Int) ≤ (pre.length : Int)) = True := by simp
    have hpl : (pre ++ [b]).length = pre.length + 1 := by simp
    have hw : IntKind.i64.wrap ((pre.length : Int) + 1) = (((pre ++ [b]).length : Nat) : Int) := by rw [wrap_i64] <;> simp <;> omega
    have ih' := ih (pre ++ [b]) (by rw [he]; simp)
    rw [loopM_step (by kernel_rfl)]
    unfold w1
    rw [hpl] at ih' hw
    generalize w1 bs2 fs2 rest (pre.length + 1) = r at *
    simp only [envS, loopOf, findLoop, regOf, Option.getD, envOf, List.range, List.range.loop, go_sem, Nat.reduceBEq, Nat.reduceEqDiff, Option.some.injEq, reduceCtorEq, Try.f18] at ih' ⊢
    cases b with
    | false =>
      cases r <;> simp only [go_sem, Nat.reduceBEq, Nat.reduceAdd, Nat.reduceSub, Nat.reduceEqDiff, Nat.reduceLeDiff, Nat.reduceMul, rgT, regionT, allocs, isv?, stepO, okDst, wantedA, evalOp, evalV, evalS, storeAt, look, ofV, ofC, putA, clearA, lookV, lookVs, lookParts, adrOk, baseAt, baseOf, loadAt, partA, binA, unA, resOf, mkRes, envOf, List.range, List.range.loop, evalBuiltin, liveW, regOf, startE, optN, mapGet, mapPut, orZero, keyOk, cellOk, rv, rl, re, rc, fc, rbc, fbc, hlt, hget, hp0, hw, ih', Bool.false_and, Bool.false_eq_true, if_true, if_false]
    | true =>
      cases hq : holdsB bs2 fs2 pre.length 0 <;> cases r <;> simp only [go_sem, Nat.reduceBEq, Nat.reduceAdd, Nat.reduceSub, Nat.reduceEqDiff, Nat.reduceLeDiff, Nat.reduceMul, rgT, regionT, allocs, isv?, stepO, okDst, wantedA, evalOp, evalV, evalS, storeAt, look, ofV, ofC, putA, clearA, lookV, lookVs, lookParts, adrOk, baseAt, baseOf, loadAt, partA, binA, unA, resOf, mkRes, envOf, List.range, List.range.loop, evalBuiltin, liveW, regOf, startE, optN, mapGet, mapPut, orZero, keyOk, cellOk, rv, rl, re, rc, fc, rbc, fbc, hlt, hget, hp0, hw, hh, hq, ih', Bool.true_and, Bool.not_true, Bool.not_false, Bool.false_eq_true, if_true, if_false]

set_option maxRecDepth 100000 in
set_option maxHeartbeats 4000000 in
theorem c18_3 (hfa : Sl σ 1 fa (fs.map iL)) (hfb : Sl σ 1 fb (fs2.map iL)) (hrbc : rb.cells = [rb]) (hrbv : (Slot.val rb).v = some rb) {l : List Int} {n : Nat} (hnf : n < fs.length) (hgf : (fs.map iL)[n]? = some (iL l)) (hrac : ra.cells = [ra]) (hlen : l.length < 2^63) (hl2 : ∀ l ∈ fs2, l.length < 2^63) :
    ∀ (rest pre : List Int), l = pre ++ rest →
      loopM Try.prog cfI 18 base (loopOf Try.f18 10) (envS 65 [(2, .var [ra, fa]), (3, .var [rb, fb]), (6, .val (.int .i64 n)), (7, .val (.int .i64 pre.length))], σ) =
        if w3 fs2 n rest = true then some (.exit 4, envS 65 [(2, .var [ra, fa]), (3, .var [rb, fb]), (6, .val (.int .i64 n))], σ) else some (.ret, envS 65 [(4, .val (.bool false))], σ) := by
  have fv := hfa.v
  have fl := hfa.len
  have fe := hfa.el
  have fc := hfa.cells
  rw [List.length_map] at fl
  have hnf' : ((n : Int) < fs.length) = True := by simp; omega
  have hn0 : ((0 : Int) ≤ (n : Int)) = True := by simp
  have fbv := hfb.v
  have fbl := hfb.len
  have fbe := hfb.el
  have fbc := hfb.cells
  rw [List.length_map] at fbl
  intro rest
  induction rest with
  | nil =>
    intro pre he
    have hlt : ¬ ((pre.length : Int) < l.length) := by rw [he]; simp
    rw [loopM_step (by kernel_rfl), show w3 fs2 n [] = true from rfl, if_pos rfl]
    simp only [envS, loopOf, findLoop, regOf, Option.getD, envOf, List.range, List.range.loop, go_sem, Nat.reduceBEq, Nat.reduceEqDiff, Option.some.injEq, reduceCtorEq, Try.f18]
    simp only [go_sem, Nat.reduceBEq, Nat.reduceAdd, Nat.reduceSub, Nat.reduceEqDiff, Nat.reduceLeDiff, Nat.reduceMul, rgT, regionT, allocs, isv?, stepO, okDst, wantedA, evalOp, evalV, evalS, storeAt, look, ofV, ofC, putA, clearA, lookV, lookVs, lookParts, adrOk, baseAt, baseOf, loadAt, partA, binA, unA, resOf, mkRes, envOf, List.range, List.range.loop, evalBuiltin, liveW, regOf, startE, optN, mapGet, mapPut, orZero, keyOk, cellOk, hlt, fv, fl, fe, fc, hrac, hrbc, fbc, hnf', hn0, hgf, iL_v, iL_len, iL_el, iL_c]
  | cons d rest ih =>
    intro pre he
    have hll : l.length = pre.length + (rest.length + 1) := by rw [he]; simp
    have hlt : ((pre.length : Int) < l.length) = True := by simp; omega
    have hget : (ints l)[pre.length]? = some (.int .i64 d) := by rw [he]; simp [ints]
    have hp0 : ((0 : Int) ≤ (pre.length : Int)) = True := by simp
    have hpl : (pre ++ [d]).length = pre.length + 1 := by simp
    have hw : IntKind.i64.wrap ((pre.length : Int) + 1) = (((pre ++ [d]).length : Nat) : Int) := by rw [wrap_i64] <;> simp <;> omega
    have ih' := ih (pre ++ [d]) (by rw [he]; simp)
    rw [loopM_step (by kernel_rfl)]
    unfold w3
    generalize w3 fs2 n rest = r at *
    simp only [envS, loopOf, findLoop, regOf, Option.getD, envOf, List.range, List.range.loop, go_sem, Nat.reduceBEq, Nat.reduceEqDiff, Option.some.injEq, reduceCtorEq, Try.f18] at ih' ⊢
    by_cases h1 : (n : Int) ≥ fs2.length
    · simp only [go_sem, Nat.reduceBEq, Nat.reduceAdd, Nat.reduceSub, Nat.reduceEqDiff, Nat.reduceLeDiff, Nat.reduceMul, rgT, regionT, allocs, isv?, stepO, okDst, wantedA, evalOp, evalV, evalS, storeAt, look, ofV, ofC, putA, clearA, lookV, lookVs, lookParts, adrOk, baseAt, baseOf, loadAt, partA, binA, unA, resOf, mkRes, envOf, List.range, List.range.loop, evalBuiltin, liveW, regOf, startE, optN, mapGet, mapPut, orZero, keyOk, cellOk, fl, fe, fc, hrac, hnf', hgf, fv, fbv, fbl, hrbc, fbc, hlt, hget, hp0, hn0, iL_v, iL_len, iL_el, iL_c, h1, decide_true, Bool.true_or, if_true, Bool.false_eq_true, if_false]
    · have hnl : n < fs2.length := by omega
      have hnl' : ((n : Int) < fs2.length) = True := by simp; omega
      have hgn : (fs2.map iL)[n]? = some (iL (fs2.getD n [])) := by simp [hnl]
      have hm : fs2.getD n [] ∈ fs2 := by simp [hnl]
      have hc := fun b => c28 (base := b) (σ := σ) (a := iL (fs2.getD n [])) (x := d) (Sl.list _) (hl2 _ hm)
      generalize fs2.getD n [] = g at *
      by_cases h2 : d ∈ g
      · cases r <;> simp only [go_sem, Nat.reduceBEq, Nat.reduceAdd, Nat.reduceSub, Nat.reduceEqDiff, Nat.reduceLeDiff, Nat.reduceMul, rgT, regionT, allocs, isv?, stepO, okDst, wantedA, evalOp, evalV, evalS, storeAt, look, ofV, ofC, putA, clearA, lookV, lookVs, lookParts, adrOk, baseAt, baseOf, loadAt, partA, binA, unA, resOf, mkRes, envOf, List.range, List.range.loop, evalBuiltin, liveW, regOf, startE, optN, mapGet, mapPut, orZero, keyOk, cellOk, fl, fe, fc, hrac, hnf', hgf, fv, fbv, fbl, fbe, hrbc, fbc, hlt, hget, hp0, hn0, hw, iL_v, iL_len, iL_el, iL_c, h1, hnl', hgn, hc, h2, ih', decide_true, decide_false, Bool.not_true, Bool.or_false, Bool.false_eq_true, if_true, if_false]
      · simp only [go_sem, Nat.reduceBEq, Nat.reduceAdd, Nat.reduceSub, Nat.reduceEqDiff, Nat.reduceLeDiff, Nat.reduceMul, rgT, regionT, allocs, isv?, stepO, okDst, wantedA, evalOp, evalV, evalS, storeAt, look, ofV, ofC, putA, clearA, lookV, lookVs, lookParts, adrOk, baseAt, baseOf, loadAt, partA, binA, unA, resOf, mkRes, envOf, List.range, List.range.loop, evalBuiltin, liveW, regOf, startE, optN, mapGet, mapPut, orZero, keyOk, cellOk, fl, fe, fc, hrac, hnf', hgf, fv, fbv, fbl, fbe, hrbc, fbc, hlt, hget, hp0, hn0, iL_v, iL_len, iL_el, iL_c, h1, hnl', hgn, hc, h2, decide_true, decide_false, Bool.not_false, Bool.or_true, Bool.false_eq_true, if_true, if_false]

set_option maxRecDepth 100000 in
set_option maxHeartbeats 4000000 in
theorem c18_2 (hfa : Sl σ 1 fa (fs.map iL)) (hfb : Sl σ 1 fb (fs2.map iL)) (hrbc : rb.cells = [rb]) (hrbv : (Slot.val rb).v = some rb) (hrac : ra.cells = [ra]) (hlen : fs.length < 2^63) (hl1 : ∀ l ∈ fs, l.length < 2^63) (hl2 : ∀ l ∈ fs2, l.length < 2^63) :
    ∀ (rest pre : List (List Int)), fs = pre ++ rest →
      loopM Try.prog cfI 18 base (loopOf Try.f18 7) (envS 65 [(2, .var [ra, fa]), (3, .var [rb, fb]), (6, .val (.int .i64 pre.length))], σ) =
        if w2 fs2 rest pre.length = true then some (.exit 2, envS 65 [], σ) else some (.ret, envS 65 [(4, .val (.bool false))], σ) := by
  have fv := hfa.v
  have fc := hfa.cells
  have fbc := hfb.cells
  have fl := hfa.len
  have fe := hfa.el
  rw [List.length_map] at fl
  intro rest
  induction rest with
  | nil =>
    intro pre he
    have hlt : ¬ ((pre.length : Int) < fs.length) := by rw [he]; simp
    rw [loopM_step (by kernel_rfl), show w2 fs2 [] pre.length = true from rfl, if_pos rfl]
    simp only [envS, loopOf, findLoop, regOf, Option.getD, envOf, List.range, List.range.loop, go_sem, Nat.reduceBEq, Nat.reduceEqDiff, Option.some.injEq, reduceCtorEq, Try.f18]
    simp only [go_sem, Nat.reduceBEq, Nat.reduceAdd, Nat.reduceSub, Nat.reduceEqDiff, Nat.reduceLeDiff, Nat.reduceMul, rgT, regionT, allocs, isv?, stepO, okDst, wantedA, evalOp, evalV, evalS, storeAt, look, ofV, ofC, putA, clearA, lookV, lookVs, lookParts, adrOk, baseAt, baseOf, loadAt, partA, binA, unA, resOf, mkRes, envOf, List.range, List.range.loop, evalBuiltin, liveW, regOf, startE, optN, mapGet, mapPut, orZero, keyOk, cellOk, fv, fl, fc, fbc, hrac, hrbc, hlt]
  | cons l rest ih =>
    intro pre he
    have hll : fs.length = pre.length + (rest.length + 1) := by rw [he]; simp
    have hlt : ((pre.length : Int) < fs.length) = True := by simp; omega
    have hget : (fs.map iL)[pre.length]? = some (iL l) := by rw [he]; simp
    have hp0 : ((0 : Int) ≤ (pre.length : Int)) = True := by simp
    have hpl : (pre ++ [l]).length = pre.length + 1 := by simp
    have hw : IntKind.i64.wrap ((pre.length : Int) + 1) = (((pre ++ [l]).length : Nat) : Int) := by rw [wrap_i64] <;> simp <;> omega
    have ih' := ih (pre ++ [l]) (by rw [he]; simp)
    have hl : l.length < 2^63 := hl1 l (by rw [he]; simp)
    have h3 := c18_3 (base := base) (ra := ra) hfa hfb hrbc hrbv (n := pre.length) (l := l) (by omega) hget hrac hl hl2 l [] rfl
    rw [show ((([] : List Int).length : Nat) : Int) = 0 from rfl] at h3
    rw [loopM_step (by kernel_rfl)]
    unfold w2
    rw [hpl] at ih' hw
    generalize w2 fs2 rest (pre.length + 1) = r at *
    generalize w3 fs2 pre.length l = q at *
    simp only [envS, loopOf, findLoop, regOf, Option.getD, envOf, List.range, List.range.loop, go_sem, Nat.reduceBEq, Nat.reduceEqDiff, Option.some.injEq, reduceCtorEq, Try.f18] at ih' h3 ⊢
    cases q with
    | false => simp only [go_sem, Nat.reduceBEq, Nat.reduceAdd, Nat.reduceSub, Nat.reduceEqDiff, Nat.reduceLeDiff, Nat.reduceMul, rgT, regionT, allocs, isv?, stepO, okDst, wantedA, evalOp, evalV, evalS, storeAt, look, ofV, ofC, putA, clearA, lookV, lookVs, lookParts, adrOk, baseAt, baseOf, loadAt, partA, binA, unA, resOf, mkRes, envOf, List.range, List.range.loop, evalBuiltin, liveW, regOf, startE, optN, mapGet, mapPut, orZero, keyOk, cellOk, fc, fbc, hrac, hrbc, fv, fl, fe, hlt, hget, hp0, iL_v, iL_len, iL_c, h3, Bool.false_eq_true, if_true, if_false]
    | true => cases r <;> simp only [go_sem, Nat.reduceBEq, Nat.reduceAdd, Nat.reduceSub, Nat.reduceEqDiff, Nat.reduceLeDiff, Nat.reduceMul, rgT, regionT, allocs, isv?, stepO, okDst, wantedA, evalOp, evalV, evalS, storeAt, look, ofV, ofC, putA, clearA, lookV, lookVs, lookParts, adrOk, baseAt, baseOf, loadAt, partA, binA, unA, resOf, mkRes, envOf, List.range, List.range.loop, evalBuiltin, liveW, regOf, startE, optN, mapGet, mapPut, orZero, keyOk, cellOk, fc, fbc, hrac, hrbc, fv, fl, fe, hlt, hget, hp0, hw, iL_v, iL_len, iL_c, h3, ih', Bool.false_eq_true, if_true, if_false]

set_option maxRecDepth 100000 in
set_option maxHeartbeats 4000000 in
theorem c18 (hra : Sl σ 1 ra (bs.map .bool)) (hfa : Sl σ 1 fa (fs.map iL)) (hrb : Sl σ 1 rb (bs2.map .bool)) (hfb : Sl σ 1 fb (fs2.map iL)) (hlen : bs.length < 2^63) (hlen2 : fs.length < 2^63) (hl1 : ∀ l ∈ fs, l.length < 2^63) (hl2 : ∀ l ∈ fs2, l.length < 2^63)
    (hh : ∀ base n d, callL Try.prog cfI 11 [.agg [rb, fb], .int .i64 n, .int .i64 d] σ base = some (.bool (holdsB bs2 fs2 n d), σ)) :
    callL Try.prog cfI 18 [.agg [ra, fa], .agg [rb, fb]] σ base = some (.bool (w1 bs2 fs2 bs 0 && w2 fs2 fs 0), σ) := by
  have k1 := c18_1 (base := σ.length) hra hfa hrb hfb hlen hh bs [] rfl
  have k2 := c18_2 (base := σ.length) (ra := ra) (rb := rb) hfa hfb hrb.cells hrb.v hra.cells hlen2 hl1 hl2 fs [] rfl
  rw [show ((([] : List Bool).length : Nat) : Int) = 0 from rfl, List.length_nil] at k1
  rw [show ((([] : List (List Int)).length : Nat) : Int) = 0 from rfl, List.length_nil] at k2
  have rv := hra.v
  have rl := hra.len
  have fv := hfa.v
  have fl := hfa.len
  have rc := hra.cells
  have fc := hfa.cells
  have rbc := hrb.cells
  have fbc := hfb.cells
  have rbv := hrb.v
  have fbv := hfb.v
  rw [List.length_map] at rl fl
  generalize w1 bs2 fs2 bs 0 = p at *
  generalize w2 fs2 fs 0 = q at *
  simp only [envS, loopOf, findLoop, regOf, Option.getD, envOf, List.range, List.range.loop, go_sem, Nat.reduceBEq, Nat.reduceEqDiff, Option.some.injEq, reduceCtorEq, Try.f18] at k1 k2
  refine callL_pure (σ' := σ) (v := .bool (p && q)) Try.func18 rfl (by kernel_rfl) rfl rfl (by simp) ?_ rfl
  unfold bodyT
  cases p with
  | false => simp only [Try.f18, go_sem, Nat.reduceBEq, Nat.reduceAdd, Nat.reduceSub, Nat.reduceEqDiff, Nat.reduceLeDiff, Nat.reduceMul, rgT, regionT, allocs, isv?, stepO, okDst, wantedA, evalOp, evalV, evalS, storeAt, look, ofV, ofC, putA, clearA, lookV, lookVs, lookParts, adrOk, baseAt, baseOf, loadAt, partA, binA, unA, resOf, mkRes, envOf, List.range, List.range.loop, evalBuiltin, liveW, regOf, startE, optN, mapGet, mapPut, orZero, keyOk, cellOk, rv, rl, fv, fl, rc, fc, rbc, fbc, rbv, fbv, k1, Bool.false_eq_true, if_true, if_false, Bool.false_and]
  | true => cases q <;> simp only [Try.f18, go_sem, Nat.reduceBEq, Nat.reduceAdd, Nat.reduceSub, Nat.reduceEqDiff, Nat.reduceLeDiff, Nat.reduceMul, rgT, regionT, allocs, isv?, stepO, okDst, wantedA, evalOp, evalV, evalS, storeAt, look, ofV, ofC, putA, clearA, lookV, lookVs, lookParts, adrOk, baseAt, baseOf, loadAt, partA, binA, unA, resOf, mkRes, envOf, List.range, List.range.loop, evalBuiltin, liveW, regOf, startE, optN, mapGet, mapPut, orZero, keyOk, cellOk, rv, rl, fv, fl, rc, fc, rbc, fbc, rbv, fbv, k1, k2, Bool.false_eq_true, if_true, if_false, Bool.true_and]

end
end Go.Can
