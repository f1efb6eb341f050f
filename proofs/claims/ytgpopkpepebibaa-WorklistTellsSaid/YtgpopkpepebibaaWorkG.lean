/- Contracts: own, New, Len, Drain, Has, Same, Pop. -/
import Derived.Test.YtgpopkpepebibaaWorkF
set_option linter.unusedSimpArgs false
set_option linter.unusedVariables false
namespace Go.Can
open Go Go.Proofs

set_option maxRecDepth 100000 in
set_option maxHeartbeats 4000000 in
theorem c23 {σ : St} {base : Nat} {a : AV} {l : List Int} (hs : Sl σ 1 a (ints l)) (hlen : l.length < 2^40) :
    callL Try.prog cfW 23 [a] σ base = some (.row 1 σ.length l.length 0 l.length false, σ ++ [.row 1 (ints l)]) := by
  have hv := hs.v
  have he := hs.el
  have hap := fun b => append_fresh (base := b) (σ := σ) (sz := 1) (bytes := 8) (s := 1) (ys := ints l) (by rw [ints_len]; omega) (by omega)
  rw [ints_len] at hap
  refine callL_body Try.func23 rfl (by kernel_rfl) rfl rfl ?_
  show bodyT Try.prog cfW 23 Try.f23 _ _ _ σ.length = _
  unfold bodyT
  simp only [Try.f23, go_sem, Nat.reduceBEq, Nat.reduceAdd, Nat.reduceSub, Nat.reduceEqDiff, Nat.reduceLeDiff, Nat.reduceMul, rgT, regionT, cfVars, cfKeep, allocs, isv?, stepO, okDst, wantedA, evalOp, evalV, evalS, storeAt, look, ofV, ofC, putA, clearA, lookV, lookVs, lookParts, adrOk, baseAt, baseOf, loadAt, partA, binA, unA, resOf, mkRes, envOf, List.range, List.range.loop, evalBuiltin, liveW, cfLive, cfOut, cfRes, regOf, startE, optN, mapGet, mapPut, orZero, keyOk, cellOk, hv, he, hap]

/-- A slice that stands whatever is laid behind. -/
structure Slw (σ : St) (a : AV) (l : List Int) : Prop where
  sl : ∀ m, Sl (σ ++ m) 1 a (ints l)
  nl : NL a

theorem Slw.here {σ : St} {a : AV} {l : List Int} (h : Slw σ a l) : Sl σ 1 a (ints l) := by have := h.sl []; rwa [List.append_nil] at this
theorem Slw.more {σ : St} {a : AV} {l : List Int} (h : Slw σ a l) (m : St) : Slw (σ ++ m) a l := ⟨fun k => by rw [List.append_assoc]; exact h.sl _, h.nl⟩
theorem Slw.list {σ : St} {f : Bool} {l : List Int} : Slw σ (.list f 1 (ints l)) l := ⟨fun _ => Sl.list _, NL.list⟩
theorem Slw.nil {σ : St} {f : Bool} {s : Nat} : Slw σ (.list f s []) [] := ⟨fun _ => Sl.nil _, NL.list⟩

set_option maxRecDepth 100000 in
set_option maxHeartbeats 4000000 in
theorem c14 {σ : St} {base : Nat} {r it : AV} {rank items : List Int} (hr : Slw σ r rank) (hi : Slw σ it items) (hlen : items.length < 2^40) :
    callL Try.prog cfW 14 [.agg [r, it]] σ base = some (.int .i64 (if chkQ rank items = 0 then items.length else 0), σ) := by
  have rv := hr.here.v
  have rc := hr.here.cells
  have ic := hi.here.cells
  have il := hi.here.len
  have iv := hi.here.v
  rw [ints_len] at il
  have hck := fun b => c16 (base := b) hr.here hi.here hr.sl hi.sl (by omega)
  refine callL_pure (σ' := σ) (v := .int .i64 (if chkQ rank items = 0 then items.length else 0)) Try.func14 rfl (by kernel_rfl) rfl rfl (by simp) ?_ rfl
  unfold bodyT
  by_cases h : chkQ rank items = 0
  · simp only [Try.f14, go_sem, Nat.reduceBEq, Nat.reduceAdd, Nat.reduceSub, Nat.reduceEqDiff, Nat.reduceLeDiff, Nat.reduceMul, rgT, regionT, cfVars, cfKeep, allocs, isv?, stepO, okDst, wantedA, evalOp, evalV, evalS, storeAt, look, ofV, ofC, putA, clearA, lookV, lookVs, lookParts, adrOk, baseAt, baseOf, loadAt, partA, binA, unA, resOf, mkRes, envOf, List.range, List.range.loop, evalBuiltin, liveW, cfLive, cfOut, cfRes, regOf, startE, optN, mapGet, mapPut, orZero, keyOk, cellOk, rv, rc, ic, il, iv, hck, h]
  · simp only [Try.f14, go_sem, Nat.reduceBEq, Nat.reduceAdd, Nat.reduceSub, Nat.reduceEqDiff, Nat.reduceLeDiff, Nat.reduceMul, rgT, regionT, cfVars, cfKeep, allocs, isv?, stepO, okDst, wantedA, evalOp, evalV, evalS, storeAt, look, ofV, ofC, putA, clearA, lookV, lookVs, lookParts, adrOk, baseAt, baseOf, loadAt, partA, binA, unA, resOf, mkRes, envOf, List.range, List.range.loop, evalBuiltin, liveW, cfLive, cfOut, cfRes, regOf, startE, optN, mapGet, mapPut, orZero, keyOk, cellOk, rv, rc, ic, il, iv, hck, h]

set_option maxRecDepth 100000 in
set_option maxHeartbeats 4000000 in
theorem c22 {σ : St} {base : Nat} {r it : AV} {rank items : List Int} {x : Int} (hr : Slw σ r rank) (hi : Slw σ it items) (hlen : items.length < 2^40) :
    callL Try.prog cfW 22 [.agg [r, it], .int .i64 x] σ base = some (.bool (decide (chkQ rank items = 0) && decide (x ∈ items)), σ) := by
  have rv := hr.here.v
  have rc := hr.here.cells
  have ic := hi.here.cells
  have il := hi.here.len
  have iv := hi.here.v
  rw [ints_len] at il
  have hck := fun b => c16 (base := b) hr.here hi.here hr.sl hi.sl (by omega)
  have hco := fun b => c26 (base := b) hi.here (x := x) (by omega)
  refine callL_pure (σ' := σ) (v := .bool (decide (chkQ rank items = 0) && decide (x ∈ items))) Try.func22 rfl (by kernel_rfl) rfl rfl (by simp) ?_ rfl
  unfold bodyT
  by_cases h : chkQ rank items = 0
  · simp only [Try.f22, go_sem, Nat.reduceBEq, Nat.reduceAdd, Nat.reduceSub, Nat.reduceEqDiff, Nat.reduceLeDiff, Nat.reduceMul, rgT, regionT, cfVars, cfKeep, allocs, isv?, stepO, okDst, wantedA, evalOp, evalV, evalS, storeAt, look, ofV, ofC, putA, clearA, lookV, lookVs, lookParts, adrOk, baseAt, baseOf, loadAt, partA, binA, unA, resOf, mkRes, envOf, List.range, List.range.loop, evalBuiltin, liveW, cfLive, cfOut, cfRes, regOf, startE, optN, mapGet, mapPut, orZero, keyOk, cellOk, rv, rc, ic, il, iv, hck, hco, h]
  · simp only [Try.f22, go_sem, Nat.reduceBEq, Nat.reduceAdd, Nat.reduceSub, Nat.reduceEqDiff, Nat.reduceLeDiff, Nat.reduceMul, rgT, regionT, cfVars, cfKeep, allocs, isv?, stepO, okDst, wantedA, evalOp, evalV, evalS, storeAt, look, ofV, ofC, putA, clearA, lookV, lookVs, lookParts, adrOk, baseAt, baseOf, loadAt, partA, binA, unA, resOf, mkRes, envOf, List.range, List.range.loop, evalBuiltin, liveW, cfLive, cfOut, cfRes, regOf, startE, optN, mapGet, mapPut, orZero, keyOk, cellOk, rv, rc, ic, il, iv, hck, hco, h]

theorem frz_ints {n : Nat} {σ : St} {k : Nat} : ∀ {l : List Int}, freezeL (freeze n σ (k + 1)) (ints l) = some (ints l)
  | [] => rfl
  | x :: l => by
    have := frz_ints (n := n) (σ := σ) (k := k) (l := l)
    simp only [ints, List.map_cons, freezeL] at this ⊢
    rw [this]
    rfl

theorem frz_row {n : Nat} {σ : St} {k id : Nat} {l : List Int} {off len : Nat} {lim : Bool} (hid : n ≤ id) (h : σ[id]? = some (.row 1 (ints l))) : freeze n σ (k + 2) (.row 1 id l.length off len lim) = some (.list false 1 (ints ((l.drop off).take len))) := by
  unfold freeze
  simp only
  rw [if_neg (by omega)]
  have he : elems σ 1 (.row 1 id l.length off len lim) = some (ints ((l.drop off).take len)) := by simp [elems, h, ints]
  rw [he]
  simp only [frz_ints, Option.map_some]

set_option maxRecDepth 100000 in
set_option maxHeartbeats 4000000 in
theorem c15 {σ : St} {base : Nat} {r it : AV} {rank items : List Int} (hr : Slw σ r rank) (hi : Slw σ it items) (hlen : items.length < 2^40) :
    ∃ v, callL Try.prog cfW 15 [.agg [r, it]] σ base = some (v, σ) ∧ Slw σ v (if chkQ rank items = 0 then items else []) := by
  have rv := hr.here.v
  have rc := hr.here.cells
  have ic := hi.here.cells
  have il := hi.here.len
  have iv := hi.here.v
  rw [ints_len] at il
  have hck := fun b => c16 (base := b) hr.here hi.here hr.sl hi.sl (by omega)
  have hown := fun b => c23 (base := b) hi.here (by omega)
  by_cases h : chkQ rank items = 0
  · refine ⟨.list false 1 (ints items), callL_pure (σ' := σ ++ [.row 1 (ints items)]) (v := .row 1 σ.length items.length 0 items.length false) Try.func15 rfl (by kernel_rfl) rfl rfl (by simp) ?_ ?_, ?_⟩
    · unfold bodyT
      simp only [Try.f15, go_sem, Nat.reduceBEq, Nat.reduceAdd, Nat.reduceSub, Nat.reduceEqDiff, Nat.reduceLeDiff, Nat.reduceMul, rgT, regionT, cfVars, cfKeep, allocs, isv?, stepO, okDst, wantedA, evalOp, evalV, evalS, storeAt, look, ofV, ofC, putA, clearA, lookV, lookVs, lookParts, adrOk, baseAt, baseOf, loadAt, partA, binA, unA, resOf, mkRes, envOf, List.range, List.range.loop, evalBuiltin, liveW, cfLive, cfOut, cfRes, regOf, startE, optN, mapGet, mapPut, orZero, keyOk, cellOk, rv, rc, ic, il, iv, hck, hown, h]
    · rw [frz_row (Nat.le_refl _) (by simp)]
      simp
    · rw [if_pos h]; exact .list
  · refine ⟨.list true 0 [], callL_pure (σ' := σ) (v := .list true 0 []) Try.func15 rfl (by kernel_rfl) rfl rfl (by simp) ?_ rfl, ?_⟩
    · unfold bodyT
      simp only [Try.f15, go_sem, Nat.reduceBEq, Nat.reduceAdd, Nat.reduceSub, Nat.reduceEqDiff, Nat.reduceLeDiff, Nat.reduceMul, rgT, regionT, cfVars, cfKeep, allocs, isv?, stepO, okDst, wantedA, evalOp, evalV, evalS, storeAt, look, ofV, ofC, putA, clearA, lookV, lookVs, lookParts, adrOk, baseAt, baseOf, loadAt, partA, binA, unA, resOf, mkRes, envOf, List.range, List.range.loop, evalBuiltin, liveW, cfLive, cfOut, cfRes, regOf, startE, optN, mapGet, mapPut, orZero, keyOk, cellOk, rv, rc, ic, il, iv, hck, h]
    · rw [if_neg h]; exact .nil

set_option maxRecDepth 100000 in
set_option maxHeartbeats 4000000 in
theorem c20 {σ : St} {base : Nat} {a b c d : AV} {la lb lc ld : List Int} (ha : Slw σ a la) (hb : Slw σ b lb) (hc : Slw σ c lc) (hd : Slw σ d ld) (h1 : la.length < 2^40) (h2 : lb.length < 2^40) :
    callL Try.prog cfW 20 [.agg [a, b], .agg [c, d]] σ base = some (.bool (decide (la = lc) && decide (lb = ld)), σ) := by
  have av := ha.here.v
  have bv := hb.here.v
  have cv := hc.here.v
  have dv := hd.here.v
  have ac := ha.here.cells
  have bc := hb.here.cells
  have cc := hc.here.cells
  have dc := hd.here.cells
  have e1 := fun b => c17 (base := b) ha.here hc.here (by omega)
  have e2 := fun b => c17 (base := b) hb.here hd.here (by omega)
  refine callL_pure (σ' := σ) (v := .bool (decide (la = lc) && decide (lb = ld))) Try.func20 rfl (by kernel_rfl) rfl rfl (by simp) ?_ rfl
  unfold bodyT
  by_cases h : la = lc
  · simp only [Try.f20, go_sem, Nat.reduceBEq, Nat.reduceAdd, Nat.reduceSub, Nat.reduceEqDiff, Nat.reduceLeDiff, Nat.reduceMul, rgT, regionT, cfVars, cfKeep, allocs, isv?, stepO, okDst, wantedA, evalOp, evalV, evalS, storeAt, look, ofV, ofC, putA, clearA, lookV, lookVs, lookParts, adrOk, baseAt, baseOf, loadAt, partA, binA, unA, resOf, mkRes, envOf, List.range, List.range.loop, evalBuiltin, liveW, cfLive, cfOut, cfRes, regOf, startE, optN, mapGet, mapPut, orZero, keyOk, cellOk, av, bv, cv, dv, ac, bc, cc, dc, e1, e2, h]
  · simp only [Try.f20, go_sem, Nat.reduceBEq, Nat.reduceAdd, Nat.reduceSub, Nat.reduceEqDiff, Nat.reduceLeDiff, Nat.reduceMul, rgT, regionT, cfVars, cfKeep, allocs, isv?, stepO, okDst, wantedA, evalOp, evalV, evalS, storeAt, look, ofV, ofC, putA, clearA, lookV, lookVs, lookParts, adrOk, baseAt, baseOf, loadAt, partA, binA, unA, resOf, mkRes, envOf, List.range, List.range.loop, evalBuiltin, liveW, cfLive, cfOut, cfRes, regOf, startE, optN, mapGet, mapPut, orZero, keyOk, cellOk, av, bv, cv, dv, ac, bc, cc, dc, e1, e2, h]

end Go.Can
