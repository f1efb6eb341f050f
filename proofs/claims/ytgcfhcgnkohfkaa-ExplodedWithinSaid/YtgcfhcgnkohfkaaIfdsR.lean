/- Contracts: membership; Holds, the program's and the reference's; the law IfdsHolds. -/
import Derived.Test.YtgcfhcgnkohfkaaIfdsQ
import Derived.Test.YtgcfhcgnkohfkaaIfdsK
set_option linter.unusedSimpArgs false
set_option linter.unusedVariables false
namespace Go.Can
open Go Go.Proofs

@[go_sem] theorem cfI_keep : cfI.keep = cfKeep := rfl
@[go_sem] theorem cfI_isv {f : FuncId} {t : Tmp} : isvOf cfI f t = (cfVars f).contains t := rfl
@[go_sem] theorem cfI_mk {f : FuncId} {c : Code} {o : Option Out} {e : Env} : mkT cfI f c o e = maskA (fun t => (liveW f (regOf c) o).contains t) 0 e := rfl

def ints (xs : List Int) : List AV := xs.map (AV.int .i64)
def envS (n : Nat) (l : List (Nat × Slot)) : Env := (List.range n).map fun i => match l.lookup i with
  | some s => s
  | none => .top

theorem wrap_i64 {n : Int} (h0 : -(2^63) ≤ n) (h1 : n < 2^63) : IntKind.i64.wrap n = n := by
  simp [IntKind.wrap, IntKind.bits, IntKind.signed]
  omega

theorem ints_len {l : List Int} : (ints l).length = l.length := by simp [ints]
theorem ints_get {l : List Int} {i : Nat} {x : Int} (h : l[i]? = some x) : (ints l)[(i : Int).toNat]? = some (.int .i64 x) := by simp [ints, h]

theorem in_range {l : List Int} {i : Int} (h : 0 ≤ i ∧ i < l.length) : (0 ≤ i) = True ∧ (i < ((ints l).length : Int)) = True ∧ (ints l)[i.toNat]? = some (.int .i64 (l.getD i.toNat 0)) := by
  have h1 : i.toNat < l.length := by omega
  refine ⟨by simp [h.1], by simp [ints_len, h.2], ?_⟩
  simp [ints, h1]

theorem in_rangeN {l : List Int} {i : Nat} (h : i < l.length) : ((i : Int) < ((ints l).length : Int)) = True ∧ (ints l)[i]? = some (.int .i64 (l.getD i 0)) := by
  refine ⟨by simp [ints_len, h], ?_⟩
  simp [ints, h]

theorem drop_getD {l : List Int} {i : Nat} (h : i < l.length) : l.drop i = l.getD i 0 :: l.drop (i + 1) := by rw [List.drop_eq_getElem_cons h]; simp [h]

/-- The index of 'x', or -1. -/
def idx (l : List Int) (x : Int) : Int := match l.findIdx? (fun y => decide (y = x)) with
  | some k => k
  | none => -1

set_option maxRecDepth 100000 in
set_option maxHeartbeats 4000000 in
theorem c50 {σ : St} {base : Nat} {a : AV} {l : List Int} (hs : Sl σ 1 a (ints l)) {x : Int} (hlen : l.length < 2^63) :
    callL Try.prog cfI 50 [a, .int .i64 x] σ base = some (.int .i64 (idx l x), σ) := by
  have hl := hs.len
  have hv := hs.v
  have he := hs.el
  rw [ints_len] at hl
  have key : ∀ n (i : Nat), i + n = l.length → loopM Try.prog cfI 50 σ.length (loopOf Try.f50 2) (envOf 19 [(0, a), (1, .int .i64 x), (7, .int .i64 l.length), (8, .int .i64 i)], σ) =
     match (l.drop i).findIdx? (fun y => decide (y = x)) with
     | some k => some (.ret, envOf 19 [(4, .int .i64 (i + k : Nat))], σ)
     | none => some (.exit 0, envOf 19 [], σ) := by
    intro n
    induction n with
    | zero =>
      intro i hi
      have hi' : ¬ ((i : Int) < l.length) := by omega
      have hd : l.drop i = [] := List.drop_eq_nil_of_le (by omega)
      rw [loopM_step (by kernel_rfl), hd]
      simp only [loopOf, findLoop, regOf, Option.getD, envOf, List.range, List.range.loop, go_sem, Nat.reduceBEq, Nat.reduceEqDiff, Option.some.injEq, reduceCtorEq, Try.f50]
      simp only [go_sem, Nat.reduceBEq, Nat.reduceAdd, Nat.reduceSub, Nat.reduceEqDiff, Nat.reduceLeDiff, Nat.reduceMul, rgT, regionT, allocs, isv?, stepO, okDst, wantedA, evalOp, evalV, evalS, storeAt, look, ofV, ofC, putA, clearA, lookV, lookVs, lookParts, adrOk, baseAt, baseOf, loadAt, partA, binA, unA, resOf, mkRes, envOf, List.range, List.range.loop, evalBuiltin, liveW, regOf, startE, optN, mapGet, mapPut, orZero, keyOk, cellOk, hl, hv, hi', List.findIdx?_nil]
    | succ n ih =>
      intro i hi
      have hlt : i < l.length := by omega
      obtain ⟨i1, i2⟩ := in_rangeN hlt
      rw [ints_len] at i1
      have hd := drop_getD hlt
      have hw : IntKind.i64.wrap ((i : Int) + 1) = ((i + 1 : Nat) : Int) := by rw [wrap_i64] <;> omega
      have ih' := ih (i + 1) (by omega)
      rw [loopM_step (by kernel_rfl), hd]
      simp only [loopOf, findLoop, regOf, Option.getD, envOf, List.range, List.range.loop, go_sem, Nat.reduceBEq, Nat.reduceEqDiff, Option.some.injEq, reduceCtorEq, Try.f50] at ih' ⊢
      generalize l.getD i 0 = y at *
      by_cases hq : y = x
      · subst hq
        simp only [go_sem, Nat.reduceBEq, Nat.reduceAdd, Nat.reduceSub, Nat.reduceEqDiff, Nat.reduceLeDiff, Nat.reduceMul, rgT, regionT, allocs, isv?, stepO, okDst, wantedA, evalOp, evalV, evalS, storeAt, look, ofV, ofC, putA, clearA, lookV, lookVs, lookParts, adrOk, baseAt, baseOf, loadAt, partA, binA, unA, resOf, mkRes, envOf, List.range, List.range.loop, evalBuiltin, liveW, regOf, startE, optN, mapGet, mapPut, orZero, keyOk, cellOk, hl, hv, he, i1, i2, List.findIdx?_cons, Nat.add_zero]
      · have hq' : ¬ x = y := fun e => hq e.symm
        simp only [go_sem, Nat.reduceBEq, Nat.reduceAdd, Nat.reduceSub, Nat.reduceEqDiff, Nat.reduceLeDiff, Nat.reduceMul, rgT, regionT, allocs, isv?, stepO, okDst, wantedA, evalOp, evalV, evalS, storeAt, look, ofV, ofC, putA, clearA, lookV, lookVs, lookParts, adrOk, baseAt, baseOf, loadAt, partA, binA, unA, resOf, mkRes, envOf, List.range, List.range.loop, evalBuiltin, liveW, regOf, startE, optN, mapGet, mapPut, orZero, keyOk, cellOk, hl, hv, he, i1, i2, hq, hq', hw, List.findIdx?_cons, ih']
        cases (l.drop (i + 1)).findIdx? (fun y => decide (y = x)) with
        | none => rfl
        | some k => simp only [Option.map_some]; rw [show i + 1 + k = i + (k + 1) from by omega]
  have key0 := key l.length 0 (by omega)
  rw [show ((0 : Nat) : Int) = 0 from rfl] at key0
  refine callL_pure (σ' := σ) (v := .int .i64 (idx l x)) Try.func50 rfl (by kernel_rfl) rfl rfl (by simp) ?_ rfl
  unfold bodyT idx
  simp only [loopOf, findLoop, regOf, Option.getD, envOf, List.range, List.range.loop, go_sem, Nat.reduceBEq, Nat.reduceEqDiff, Option.some.injEq, reduceCtorEq, Try.f50, Nat.zero_add] at key0
  simp only [Try.f50, go_sem, Nat.reduceBEq, Nat.reduceAdd, Nat.reduceSub, Nat.reduceEqDiff, Nat.reduceLeDiff, Nat.reduceMul, rgT, regionT, allocs, isv?, stepO, okDst, wantedA, evalOp, evalV, evalS, storeAt, look, ofV, ofC, putA, clearA, lookV, lookVs, lookParts, adrOk, baseAt, baseOf, loadAt, partA, binA, unA, resOf, mkRes, envOf, List.range, List.range.loop, evalBuiltin, liveW, regOf, startE, optN, mapGet, mapPut, orZero, keyOk, cellOk, hv, hl]
  simp only [key0]
  cases l.findIdx? (fun y => decide (y = x)) with
  | none => simp only [go_sem, Nat.reduceBEq, Nat.reduceAdd, Nat.reduceSub, Nat.reduceEqDiff, Nat.reduceLeDiff, Nat.reduceMul, rgT, regionT, allocs, isv?, stepO, okDst, wantedA, evalOp, evalV, evalS, storeAt, look, ofV, ofC, putA, clearA, lookV, lookVs, lookParts, adrOk, baseAt, baseOf, loadAt, partA, binA, unA, resOf, mkRes, envOf, List.range, List.range.loop, evalBuiltin, liveW, regOf, startE, optN, mapGet, mapPut, orZero, keyOk, cellOk]
  | some k => simp only [go_sem, Nat.reduceBEq, Nat.reduceAdd, Nat.reduceSub, Nat.reduceEqDiff, Nat.reduceLeDiff, Nat.reduceMul, rgT, regionT, allocs, isv?, stepO, okDst, wantedA, evalOp, evalV, evalS, storeAt, look, ofV, ofC, putA, clearA, lookV, lookVs, lookParts, adrOk, baseAt, baseOf, loadAt, partA, binA, unA, resOf, mkRes, envOf, List.range, List.range.loop, evalBuiltin, liveW, regOf, startE, optN, mapGet, mapPut, orZero, keyOk, cellOk]

theorem idx_mem {l : List Int} {x : Int} : decide (idx l x ≥ 0) = decide (x ∈ l) := by
  unfold idx
  cases h : l.findIdx? (fun y => decide (y = x)) with
  | none =>
    simp only [List.findIdx?_eq_none_iff, decide_eq_false_iff_not] at h
    have : ¬ x ∈ l := fun hm => h x hm rfl
    simp [this]
  | some k =>
    obtain ⟨hk, h1, _⟩ := List.findIdx?_eq_some_iff_getElem.1 h
    have : x ∈ l := by simp at h1; rw [← h1]; exact List.getElem_mem hk
    simp [this]


set_option maxRecDepth 100000 in
set_option maxHeartbeats 4000000 in
theorem c27 {σ : St} {base : Nat} {a : AV} {l : List Int} (hs : Sl σ 1 a (ints l)) {x : Int} (hlen : l.length < 2^63) :
    callL Try.prog cfI 27 [a, .int .i64 x] σ base = some (.bool (decide (x ∈ l)), σ) := by
  have hv := hs.v
  refine callL_pure (σ' := σ) (v := .bool (decide (x ∈ l))) Try.func27 rfl (by kernel_rfl) rfl rfl (by simp) ?_ rfl
  unfold bodyT
  simp only [Try.f27, go_sem, Nat.reduceBEq, Nat.reduceAdd, Nat.reduceSub, Nat.reduceEqDiff, Nat.reduceLeDiff, Nat.reduceMul, rgT, regionT, allocs, isv?, stepO, okDst, wantedA, evalOp, evalV, evalS, storeAt, look, ofV, ofC, putA, clearA, lookV, lookVs, lookParts, adrOk, baseAt, baseOf, loadAt, partA, binA, unA, resOf, mkRes, envOf, List.range, List.range.loop, evalBuiltin, liveW, regOf, startE, optN, mapGet, mapPut, orZero, keyOk, cellOk, hv, c50 hs hlen, idx_mem]

set_option maxRecDepth 100000 in
set_option maxHeartbeats 4000000 in
theorem c28 {σ : St} {base : Nat} {a : AV} {l : List Int} (hs : Sl σ 1 a (ints l)) {x : Int} (hlen : l.length < 2^63) :
    callL Try.prog cfI 28 [a, .int .i64 x] σ base = some (.bool (decide (x ∈ l)), σ) := by
  have hl := hs.len
  have hv := hs.v
  have he := hs.el
  rw [ints_len] at hl
  have key : ∀ n (i : Nat), i + n = l.length → loopM Try.prog cfI 28 σ.length (loopOf Try.f28 2) (envOf 18 [(0, a), (1, .int .i64 x), (5, .int .i64 i)], σ) =
     if x ∈ l.drop i then some (.ret, envOf 18 [(4, .bool true)], σ) else some (.exit 0, envOf 18 [], σ) := by
    intro n
    induction n with
    | zero =>
      intro i hi
      have hi' : ¬ ((i : Int) < l.length) := by omega
      have hd : l.drop i = [] := List.drop_eq_nil_of_le (by omega)
      rw [loopM_step (by kernel_rfl), hd, if_neg (by simp)]
      simp only [loopOf, findLoop, regOf, Option.getD, envOf, List.range, List.range.loop, go_sem, Nat.reduceBEq, Nat.reduceEqDiff, Option.some.injEq, reduceCtorEq, Try.f28]
      simp only [go_sem, Nat.reduceBEq, Nat.reduceAdd, Nat.reduceSub, Nat.reduceEqDiff, Nat.reduceLeDiff, Nat.reduceMul, rgT, regionT, allocs, isv?, stepO, okDst, wantedA, evalOp, evalV, evalS, storeAt, look, ofV, ofC, putA, clearA, lookV, lookVs, lookParts, adrOk, baseAt, baseOf, loadAt, partA, binA, unA, resOf, mkRes, envOf, List.range, List.range.loop, evalBuiltin, liveW, regOf, startE, optN, mapGet, mapPut, orZero, keyOk, cellOk, hl, hv, hi']
    | succ n ih =>
      intro i hi
      have hlt : i < l.length := by omega
      obtain ⟨i1, i2⟩ := in_rangeN hlt
      rw [ints_len] at i1
      have hd := drop_getD hlt
      have hw : IntKind.i64.wrap ((i : Int) + 1) = ((i + 1 : Nat) : Int) := by rw [wrap_i64] <;> omega
      have ih' := ih (i + 1) (by omega)
      rw [loopM_step (by kernel_rfl), hd]
      simp only [loopOf, findLoop, regOf, Option.getD, envOf, List.range, List.range.loop, go_sem, Nat.reduceBEq, Nat.reduceEqDiff, Option.some.injEq, reduceCtorEq, Try.f28] at ih' ⊢
      generalize l.getD i 0 = y at *
      by_cases hq : y = x
      · simp only [go_sem, Nat.reduceBEq, Nat.reduceAdd, Nat.reduceSub, Nat.reduceEqDiff, Nat.reduceLeDiff, Nat.reduceMul, rgT, regionT, allocs, isv?, stepO, okDst, wantedA, evalOp, evalV, evalS, storeAt, look, ofV, ofC, putA, clearA, lookV, lookVs, lookParts, adrOk, baseAt, baseOf, loadAt, partA, binA, unA, resOf, mkRes, envOf, List.range, List.range.loop, evalBuiltin, liveW, regOf, startE, optN, mapGet, mapPut, orZero, keyOk, cellOk, hl, hv, he, i1, i2, hq, List.mem_cons, true_or, if_true]
      · have hq' : ¬ x = y := fun e => hq e.symm
        simp only [go_sem, Nat.reduceBEq, Nat.reduceAdd, Nat.reduceSub, Nat.reduceEqDiff, Nat.reduceLeDiff, Nat.reduceMul, rgT, regionT, allocs, isv?, stepO, okDst, wantedA, evalOp, evalV, evalS, storeAt, look, ofV, ofC, putA, clearA, lookV, lookVs, lookParts, adrOk, baseAt, baseOf, loadAt, partA, binA, unA, resOf, mkRes, envOf, List.range, List.range.loop, evalBuiltin, liveW, regOf, startE, optN, mapGet, mapPut, orZero, keyOk, cellOk, hl, hv, he, i1, i2, hq, hq', hw, List.mem_cons, false_or, ih']
  have key0 := key l.length 0 (by omega)
  rw [show ((0 : Nat) : Int) = 0 from rfl, List.drop_zero] at key0
  refine callL_pure (σ' := σ) (v := .bool (decide (x ∈ l))) Try.func28 rfl (by kernel_rfl) rfl rfl (by simp) ?_ rfl
  unfold bodyT
  simp only [loopOf, findLoop, regOf, Option.getD, envOf, List.range, List.range.loop, go_sem, Nat.reduceBEq, Nat.reduceEqDiff, Option.some.injEq, reduceCtorEq, Try.f28] at key0
  by_cases hm : x ∈ l
  · rw [if_pos hm] at key0
    simp only [Try.f28, go_sem, Nat.reduceBEq, Nat.reduceAdd, Nat.reduceSub, Nat.reduceEqDiff, Nat.reduceLeDiff, Nat.reduceMul, rgT, regionT, allocs, isv?, stepO, okDst, wantedA, evalOp, evalV, evalS, storeAt, look, ofV, ofC, putA, clearA, lookV, lookVs, lookParts, adrOk, baseAt, baseOf, loadAt, partA, binA, unA, resOf, mkRes, envOf, List.range, List.range.loop, evalBuiltin, liveW, regOf, startE, optN, mapGet, mapPut, orZero, keyOk, cellOk, hv, hl, key0, hm]
  · rw [if_neg hm] at key0
    simp only [Try.f28, go_sem, Nat.reduceBEq, Nat.reduceAdd, Nat.reduceSub, Nat.reduceEqDiff, Nat.reduceLeDiff, Nat.reduceMul, rgT, regionT, allocs, isv?, stepO, okDst, wantedA, evalOp, evalV, evalS, storeAt, look, ofV, ofC, putA, clearA, lookV, lookVs, lookParts, adrOk, baseAt, baseOf, loadAt, partA, binA, unA, resOf, mkRes, envOf, List.range, List.range.loop, evalBuiltin, liveW, regOf, startE, optN, mapGet, mapPut, orZero, keyOk, cellOk, hv, hl, key0, hm]

theorem callN_nullary {P : Program} {cf : Cfg} {n : Nat} {f : FuncId} {v : AV} (h : callN P cf (n + 1) f [] [] 0 = some (v, [])) (hp : cf.prim f = none) (hpu : cf.pure f = true) (σ : St) (base : Nat) : callL P cf f [] σ base = some (v, σ) := by
  refine callL_iff.2 ⟨n + 1, ?_⟩
  show enterA P cf (callN P cf n) (fun b s => loopN b n s) f [] σ base = some (v, σ)
  have h' : enterA P cf (callN P cf n) (fun b s => loopN b n s) f [] [] 0 = some (v, []) := h
  unfold enterA at h' ⊢
  cases hf : P.funcs[f]? with
  | none => simp only [hp, hf] at h'; cases h'
  | some fn =>
    cases hc : fn.body with
    | none => simp only [hp, hf, hc] at h'; cases h'
    | some c =>
      simp only [hp, hf, hc, hpu, if_true, List.isEmpty_nil] at h' ⊢
      split at h'
      · rename_i v1 s1 hb
        split at h'
        · rename_i v2 hz
          cases h'
          simp only [hb, hz]
        · cases h'
      · cases h'

theorem c9 {σ : St} {base : Nat} : callL Try.prog cfI 9 [] σ base = some (.bool true, σ) := callN_nullary knows30 rfl rfl σ base

/-- A solution: what is reached; the facts. -/
def solA (bs : List Bool) (fs : List (List Int)) : AV := .agg [.list false 1 (bs.map .bool), .list false 1 (fs.map fun l => .list false 1 (ints l))]

def holdsB (bs : List Bool) (fs : List (List Int)) (n d : Int) : Bool :=
  if d = 0 then decide (n ≥ 0) && (decide (n < bs.length) && bs.getD n.toNat false) else decide (n ≥ 0) && (decide (n < fs.length) && decide (d ∈ fs.getD n.toNat []))

theorem bools_at {bs : List Bool} {n : Int} (h0 : n ≥ 0) (h : n < bs.length) : (bs.map AV.bool)[n.toNat]? = some (.bool (bs.getD n.toNat false)) := by
  have : n.toNat < bs.length := by omega
  simp [this]

theorem facts_at {fs : List (List Int)} {n : Int} (h0 : n ≥ 0) (h : n < fs.length) : (fs.map fun l => AV.list false 1 (ints l))[n.toNat]? = some (.list false 1 (ints (fs.getD n.toNat []))) := by
  have : n.toNat < fs.length := by omega
  simp [this]

set_option maxRecDepth 100000 in
set_option maxHeartbeats 4000000 in
theorem c10 {σ : St} {base : Nat} {bs : List Bool} {fs : List (List Int)} {n d : Int} (hl : ∀ l ∈ fs, l.length < 2^63) :
    callL Try.prog cfI 10 [solA bs fs, .int .i64 n, .int .i64 d] σ base = some (.bool (holdsB bs fs n d), σ) := by
  have r1 : ∀ s : St, elems s 1 (.list false 1 (bs.map AV.bool)) = some (bs.map AV.bool) := fun s => by simp [elems]
  have r2 : ∀ s : St, elems s 1 (.list false 1 (fs.map fun l => AV.list false 1 (ints l))) = some (fs.map fun l => AV.list false 1 (ints l)) := fun s => by simp [elems]
  have l1 : lenS (.list false 1 (bs.map AV.bool)) = some bs.length := by simp [lenS]
  have l2 : lenS (.list false 1 (fs.map fun l => AV.list false 1 (ints l))) = some fs.length := by simp [lenS]
  refine callL_pure (σ' := σ) (v := .bool (holdsB bs fs n d)) Try.func10 rfl (by kernel_rfl) rfl rfl (by simp) ?_ rfl
  unfold bodyT holdsB solA
  by_cases hd : d = 0
  · by_cases h0 : n ≥ 0
    · by_cases h1 : n < bs.length
      · have hb := bools_at h0 h1
        have h0' : ((0 : Int) ≤ n) = True := by simp; omega
        generalize bs.getD n.toNat false = b at *
        generalize bs.map AV.bool = xs at *
        simp only [Try.f10, go_sem, Nat.reduceBEq, Nat.reduceAdd, Nat.reduceSub, Nat.reduceEqDiff, Nat.reduceLeDiff, Nat.reduceMul, rgT, regionT, allocs, isv?, stepO, okDst, wantedA, evalOp, evalV, evalS, storeAt, look, ofV, ofC, putA, clearA, lookV, lookVs, lookParts, adrOk, baseAt, baseOf, loadAt, partA, binA, unA, resOf, mkRes, envOf, List.range, List.range.loop, evalBuiltin, liveW, regOf, startE, optN, mapGet, mapPut, orZero, keyOk, cellOk, r1, l1, hd, h0, h0', h1, hb, if_true, decide_true, Bool.true_and]
      · generalize bs.map AV.bool = xs at *
        simp only [Try.f10, go_sem, Nat.reduceBEq, Nat.reduceAdd, Nat.reduceSub, Nat.reduceEqDiff, Nat.reduceLeDiff, Nat.reduceMul, rgT, regionT, allocs, isv?, stepO, okDst, wantedA, evalOp, evalV, evalS, storeAt, look, ofV, ofC, putA, clearA, lookV, lookVs, lookParts, adrOk, baseAt, baseOf, loadAt, partA, binA, unA, resOf, mkRes, envOf, List.range, List.range.loop, evalBuiltin, liveW, regOf, startE, optN, mapGet, mapPut, orZero, keyOk, cellOk, r1, l1, hd, h0, h1, if_true, decide_true, Bool.true_and, decide_false, Bool.false_and]
    · simp only [Try.f10, go_sem, Nat.reduceBEq, Nat.reduceAdd, Nat.reduceSub, Nat.reduceEqDiff, Nat.reduceLeDiff, Nat.reduceMul, rgT, regionT, allocs, isv?, stepO, okDst, wantedA, evalOp, evalV, evalS, storeAt, look, ofV, ofC, putA, clearA, lookV, lookVs, lookParts, adrOk, baseAt, baseOf, loadAt, partA, binA, unA, resOf, mkRes, envOf, List.range, List.range.loop, evalBuiltin, liveW, regOf, startE, optN, mapGet, mapPut, orZero, keyOk, cellOk, r1, l1, hd, h0, if_true, decide_false, Bool.false_and]
  · by_cases h0 : n ≥ 0
    · by_cases h1 : n < fs.length
      · have hb := facts_at h0 h1
        have h0' : ((0 : Int) ≤ n) = True := by simp; omega
        have hm : fs.getD n.toNat [] ∈ fs := by
          have : n.toNat < fs.length := by omega
          simp [this]
        have hc := fun b => c27 (base := b) (σ := σ) (a := .list false 1 (ints (fs.getD n.toNat []))) (x := d) (Sl.list _) (hl _ hm)
        generalize fs.getD n.toNat [] = l at *
        generalize (fs.map fun l => AV.list false 1 (ints l)) = xs at *
        simp only [Try.f10, go_sem, Nat.reduceBEq, Nat.reduceAdd, Nat.reduceSub, Nat.reduceEqDiff, Nat.reduceLeDiff, Nat.reduceMul, rgT, regionT, allocs, isv?, stepO, okDst, wantedA, evalOp, evalV, evalS, storeAt, look, ofV, ofC, putA, clearA, lookV, lookVs, lookParts, adrOk, baseAt, baseOf, loadAt, partA, binA, unA, resOf, mkRes, envOf, List.range, List.range.loop, evalBuiltin, liveW, regOf, startE, optN, mapGet, mapPut, orZero, keyOk, cellOk, r2, l2, hd, h0, h0', h1, hb, hc, if_false, decide_true, Bool.true_and]
      · generalize (fs.map fun l => AV.list false 1 (ints l)) = xs at *
        simp only [Try.f10, go_sem, Nat.reduceBEq, Nat.reduceAdd, Nat.reduceSub, Nat.reduceEqDiff, Nat.reduceLeDiff, Nat.reduceMul, rgT, regionT, allocs, isv?, stepO, okDst, wantedA, evalOp, evalV, evalS, storeAt, look, ofV, ofC, putA, clearA, lookV, lookVs, lookParts, adrOk, baseAt, baseOf, loadAt, partA, binA, unA, resOf, mkRes, envOf, List.range, List.range.loop, evalBuiltin, liveW, regOf, startE, optN, mapGet, mapPut, orZero, keyOk, cellOk, r2, l2, hd, h0, h1, if_false, decide_true, Bool.true_and, decide_false, Bool.false_and]
    · simp only [Try.f10, go_sem, Nat.reduceBEq, Nat.reduceAdd, Nat.reduceSub, Nat.reduceEqDiff, Nat.reduceLeDiff, Nat.reduceMul, rgT, regionT, allocs, isv?, stepO, okDst, wantedA, evalOp, evalV, evalS, storeAt, look, ofV, ofC, putA, clearA, lookV, lookVs, lookParts, adrOk, baseAt, baseOf, loadAt, partA, binA, unA, resOf, mkRes, envOf, List.range, List.range.loop, evalBuiltin, liveW, regOf, startE, optN, mapGet, mapPut, orZero, keyOk, cellOk, r2, l2, hd, h0, if_false, decide_false, Bool.false_and]

set_option maxRecDepth 100000 in
set_option maxHeartbeats 4000000 in
theorem c11 {σ : St} {base : Nat} {bs : List Bool} {fs : List (List Int)} {n d : Int} (hl : ∀ l ∈ fs, l.length < 2^63) :
    callL Try.prog cfI 11 [solA bs fs, .int .i64 n, .int .i64 d] σ base = some (.bool (holdsB bs fs n d), σ) := by
  have r1 : ∀ s : St, elems s 1 (.list false 1 (bs.map AV.bool)) = some (bs.map AV.bool) := fun s => by simp [elems]
  have r2 : ∀ s : St, elems s 1 (.list false 1 (fs.map fun l => AV.list false 1 (ints l))) = some (fs.map fun l => AV.list false 1 (ints l)) := fun s => by simp [elems]
  have l1 : lenS (.list false 1 (bs.map AV.bool)) = some bs.length := by simp [lenS]
  have l2 : lenS (.list false 1 (fs.map fun l => AV.list false 1 (ints l))) = some fs.length := by simp [lenS]
  refine callL_pure (σ' := σ) (v := .bool (holdsB bs fs n d)) Try.func11 rfl (by kernel_rfl) rfl rfl (by simp) ?_ rfl
  unfold bodyT holdsB solA
  by_cases h0 : n < 0
  · have h0' : ¬ n ≥ 0 := by omega
    by_cases hd : d = 0
    · simp only [Try.f11, go_sem, Nat.reduceBEq, Nat.reduceAdd, Nat.reduceSub, Nat.reduceEqDiff, Nat.reduceLeDiff, Nat.reduceMul, rgT, regionT, allocs, isv?, stepO, okDst, wantedA, evalOp, evalV, evalS, storeAt, look, ofV, ofC, putA, clearA, lookV, lookVs, lookParts, adrOk, baseAt, baseOf, loadAt, partA, binA, unA, resOf, mkRes, envOf, List.range, List.range.loop, evalBuiltin, liveW, regOf, startE, optN, mapGet, mapPut, orZero, keyOk, cellOk, h0, h0', hd, if_true, decide_false, Bool.false_and]
    · simp only [Try.f11, go_sem, Nat.reduceBEq, Nat.reduceAdd, Nat.reduceSub, Nat.reduceEqDiff, Nat.reduceLeDiff, Nat.reduceMul, rgT, regionT, allocs, isv?, stepO, okDst, wantedA, evalOp, evalV, evalS, storeAt, look, ofV, ofC, putA, clearA, lookV, lookVs, lookParts, adrOk, baseAt, baseOf, loadAt, partA, binA, unA, resOf, mkRes, envOf, List.range, List.range.loop, evalBuiltin, liveW, regOf, startE, optN, mapGet, mapPut, orZero, keyOk, cellOk, h0, h0', hd, if_false, decide_false, Bool.false_and]
  · have h0' : n ≥ 0 := by omega
    have h0'' : ((0 : Int) ≤ n) = True := by simp; omega
    by_cases hd : d = 0
    · by_cases h1 : n < bs.length
      · have hb := bools_at h0' h1
        generalize bs.getD n.toNat false = b at *
        generalize bs.map AV.bool = xs at *
        simp only [Try.f11, go_sem, Nat.reduceBEq, Nat.reduceAdd, Nat.reduceSub, Nat.reduceEqDiff, Nat.reduceLeDiff, Nat.reduceMul, rgT, regionT, allocs, isv?, stepO, okDst, wantedA, evalOp, evalV, evalS, storeAt, look, ofV, ofC, putA, clearA, lookV, lookVs, lookParts, adrOk, baseAt, baseOf, loadAt, partA, binA, unA, resOf, mkRes, envOf, List.range, List.range.loop, evalBuiltin, liveW, regOf, startE, optN, mapGet, mapPut, orZero, keyOk, cellOk, r1, l1, hd, h0, h0', h0'', h1, hb, if_true, decide_true, Bool.true_and]
      · generalize bs.map AV.bool = xs at *
        simp only [Try.f11, go_sem, Nat.reduceBEq, Nat.reduceAdd, Nat.reduceSub, Nat.reduceEqDiff, Nat.reduceLeDiff, Nat.reduceMul, rgT, regionT, allocs, isv?, stepO, okDst, wantedA, evalOp, evalV, evalS, storeAt, look, ofV, ofC, putA, clearA, lookV, lookVs, lookParts, adrOk, baseAt, baseOf, loadAt, partA, binA, unA, resOf, mkRes, envOf, List.range, List.range.loop, evalBuiltin, liveW, regOf, startE, optN, mapGet, mapPut, orZero, keyOk, cellOk, r1, l1, hd, h0, h0', h1, if_true, decide_true, Bool.true_and, decide_false, Bool.false_and]
    · by_cases h1 : n < fs.length
      · have hb := facts_at h0' h1
        have hm : fs.getD n.toNat [] ∈ fs := by
          have : n.toNat < fs.length := by omega
          simp [this]
        have hc := fun b => c28 (base := b) (σ := σ) (a := .list false 1 (ints (fs.getD n.toNat []))) (x := d) (Sl.list _) (hl _ hm)
        generalize fs.getD n.toNat [] = l at *
        generalize (fs.map fun l => AV.list false 1 (ints l)) = xs at *
        simp only [Try.f11, go_sem, Nat.reduceBEq, Nat.reduceAdd, Nat.reduceSub, Nat.reduceEqDiff, Nat.reduceLeDiff, Nat.reduceMul, rgT, regionT, allocs, isv?, stepO, okDst, wantedA, evalOp, evalV, evalS, storeAt, look, ofV, ofC, putA, clearA, lookV, lookVs, lookParts, adrOk, baseAt, baseOf, loadAt, partA, binA, unA, resOf, mkRes, envOf, List.range, List.range.loop, evalBuiltin, liveW, regOf, startE, optN, mapGet, mapPut, orZero, keyOk, cellOk, r2, l2, hd, h0, h0', h0'', h1, hb, hc, if_false, decide_true, Bool.true_and]
      · generalize (fs.map fun l => AV.list false 1 (ints l)) = xs at *
        simp only [Try.f11, go_sem, Nat.reduceBEq, Nat.reduceAdd, Nat.reduceSub, Nat.reduceEqDiff, Nat.reduceLeDiff, Nat.reduceMul, rgT, regionT, allocs, isv?, stepO, okDst, wantedA, evalOp, evalV, evalS, storeAt, look, ofV, ofC, putA, clearA, lookV, lookVs, lookParts, adrOk, baseAt, baseOf, loadAt, partA, binA, unA, resOf, mkRes, envOf, List.range, List.range.loop, evalBuiltin, liveW, regOf, startE, optN, mapGet, mapPut, orZero, keyOk, cellOk, r2, l2, hd, h0, h0', h1, if_false, decide_true, Bool.true_and, decide_false, Bool.false_and]

set_option maxRecDepth 100000 in
set_option maxHeartbeats 4000000 in
theorem l4 {bs : List Bool} {fs : List (List Int)} {n d : Int} (hl : ∀ l ∈ fs, l.length < 2^63) :
    callL Try.prog cfI 4 [solA bs fs, .int .i64 n, .int .i64 d] [] 0 = some (.bool true, []) := by
  have h1 := c10 (σ := []) (base := 0) (bs := bs) (n := n) (d := d) hl
  have h2 := c11 (σ := []) (base := 0) (bs := bs) (n := n) (d := d) hl
  unfold solA at *
  refine callL_pure (σ' := []) (v := .bool true) Try.func4 rfl (by kernel_rfl) rfl rfl (by simp) ?_ rfl
  unfold bodyT
  generalize holdsB bs fs n d = b at *
  cases b <;> simp only [Try.f4, go_sem, Nat.reduceBEq, Nat.reduceAdd, Nat.reduceSub, Nat.reduceEqDiff, Nat.reduceLeDiff, Nat.reduceMul, rgT, regionT, allocs, isv?, stepO, okDst, wantedA, evalOp, evalV, evalS, storeAt, look, ofV, ofC, putA, clearA, lookV, lookVs, lookParts, adrOk, baseAt, baseOf, loadAt, partA, binA, unA, resOf, mkRes, envOf, List.range, List.range.loop, evalBuiltin, liveW, regOf, startE, optN, mapGet, mapPut, orZero, keyOk, cellOk, h1, h2, c9]

end Go.Can
