/- Contracts: the first error of the edges; the whole check of a supergraph. Contracts: the check of a supergraph. -/
import Derived.Test.YtjmljgajhkbciaaGreatIfdsC8
import Derived.Test.YtjmljgajhkbciaaGreatIfdsC9
import Derived.Test.YtjmljgajhkbciaaGreatIfdsT
set_option linter.unusedSimpArgs false
set_option linter.unusedVariables false
namespace Go.Can
open Go Go.Proofs

theorem c42' {σ : St} {base : Nat} {nv ev : AV} {ns : List ND} {es : List ED} {m : Int} {i : Nat} (hs : Sl σ 3 nv (ns.map nodeA)) (he : Sl σ 4 ev (es.map edgeA)) (hlen : es.length < 2^62) (hi : i < es.length)
    (hsrt : (∀ q, prevE es i = some q → ltE q (eAt es i) = true) → Srt es) :
    callL Tryz.prog cfI 53 [.agg [nv, ev, .int .i64 m], .int .i64 i] σ base = some (.int .i64 (errAt ns es (anyC ns es) i), σ) :=
  c42 hs he hlen hi (fun h b c f => c88 hs he hlen (hsrt h))

theorem edgesOf_map : ∀ {l : List ED}, edgesOf (l.map edgeA) = some l
  | [] => rfl
  | e :: l => by
    have ih := edgesOf_map (l := l)
    rw [List.map_cons]
    unfold edgesOf
    rw [ih]
    rfl

theorem sortP_row {σ : St} {base id gen len : Nat} : sortP [.row 4 id gen 0 len false, .fn 77 [] []] σ base = match σ[id]? with
    | some (.row 4 xs) => if base ≤ id ∧ gen = xs.length ∧ len = xs.length ∧ 0 < xs.length ∧ xs.length < 4611686018427387904 then match edgesOf xs with
      | some l => some (.tup [], σ.set id (.row 4 ((sortE l).map edgeA)))
      | none => none
      else none
    | _ => none := rfl

theorem c61 {σ : St} {base id : Nat} {l : List ED} (hx : σ[id]? = some (.row 4 (l.map edgeA))) (hb : base ≤ id) (h0 : 0 < l.length) (hl : l.length ≤ 32768) :
    callL Tryz.prog cfI 76 [.row 4 id l.length 0 l.length false, .fn 77 [] []] σ base = some (.tup [], σ.set id (.row 4 ((sortE l).map edgeA))) := by
  refine callL_prim (p := sortP) rfl ?_
  rw [sortP_row, hx]
  simp only [List.length_map]
  rw [if_pos ⟨hb, trivial, trivial, h0, by omega⟩, edgesOf_map]

/-- Up to a place without errors the edges ascend. -/
theorem srt_prefix {ns : List ND} {es : List ED} {en : Int → Int → Bool} {i : Nat} (hi : i < es.length) (hok : ∀ k, k < i → errAt ns es en k = 0) (ho : ∀ q, prevE (es.take (i + 1)) i = some q → ltE q (eAt (es.take (i + 1)) i) = true) : Srt (es.take (i + 1)) := by
  have et : ∀ k, k ≤ i → eAt (es.take (i + 1)) k = eAt es k := fun k hk => by
    unfold eAt
    rw [List.getD_eq_getElem?_getD, List.getD_eq_getElem?_getD, List.getElem?_take_of_lt (by omega)]
  refine srt_of fun k h0 hk => ?_
  have hk' : k ≤ i := by simp at hk; omega
  rw [et k hk', et (k - 1) (by omega)]
  rcases Nat.lt_or_eq_of_le hk' with h | h
  · have := hok k h
    unfold errAt at this
    obtain ⟨_, h2, _⟩ := edgeErr_cases (.inl this)
    exact h2 _ (by unfold prevE; rw [if_neg (by omega)])
  · subst h
    have := ho (eAt (es.take (k + 1)) (k - 1)) (by unfold prevE; rw [if_neg (by omega)])
    rwa [et k (by omega), et (k - 1) (by omega)] at this

theorem take_err {ns : List ND} {es : List ED} {en : Int → Int → Bool} {i : Nat} (hi : i < es.length) : errAt ns (es.take (i + 1)) en i = edgeErr ns en (prevE es i) (eAt es i) := by
  have et : ∀ k, k ≤ i → eAt (es.take (i + 1)) k = eAt es k := fun k hk => by
    unfold eAt
    rw [List.getD_eq_getElem?_getD, List.getD_eq_getElem?_getD, List.getElem?_take_of_lt (by omega)]
  unfold errAt prevE
  rw [et i (by omega)]
  by_cases h : i = 0
  · rw [if_pos h, if_pos h]
  · rw [if_neg h, if_neg h, et (i - 1) (by omega)]

theorem any_mono {ns : List ND} {es : List ED} {i : Nat} {c f : Int} (h : anyC ns (es.take (i + 1)) c f = true) : anyC ns es c f = true := by
  unfold anyC at *
  rw [List.any_eq_true] at *
  obtain ⟨x, hx, h⟩ := h
  exact ⟨x, List.mem_of_mem_take hx, h⟩

/-- What fits among all edges, at an edge whose numbers are in order. -/
theorem fix_at {ns : List ND} {es : List ED} {i : Nat} (hi : i < es.length) :
    (if errAt ns (es.take (i + 1)) (anyC ns (es.take (i + 1))) i = 20 ∧ (eAt es i).2.2.1 ≠ 2 ∧ fitsB ns (anyC ns es) (eAt es i) = true then 0 else errAt ns (es.take (i + 1)) (anyC ns (es.take (i + 1))) i) = errAt ns es (anyC ns es) i := by
  rw [take_err hi]
  exact err_fix (fun c f h => any_mono h)

set_option maxRecDepth 100000 in
set_option maxHeartbeats 4000000 in
/-- The edges of a sorted graph. -/
theorem loop20 {σ : St} {nv ev : AV} {ns : List ND} {es : List ED} {m : Int} (hs : Sl σ 3 nv (ns.map nodeA)) (he : Sl σ 4 ev (es.map edgeA)) (hlen : es.length < 2^62) (hsrt : Srt es) : ∀ n (i : Nat), i + n = es.length →
    loopM Tryz.prog cfI 32 σ.length (loopOf Tryz.f32 12) (envS 64 [(1, .var [nv, ev, .int .i64 m]), (53, .val (.int .i64 es.length)), (54, .val (.int .i64 i))], σ) =
    if firstE (errAt ns es (anyC ns es)) n i = 0 then some (.exit 0, envS 64 [], σ) else some (.ret, envS 64 [(2, .val (.int .i64 (firstE (errAt ns es (anyC ns es)) n i)))], σ) := by
  have hv := hs.v
  have hv2 := he.v
  intro n
  induction n with
  | zero =>
    intro i hi
    have hi' : ¬ ((i : Int) < es.length) := by omega
    rw [loopM_step (by kernel_rfl)]
    simp only [loopOf, findLoop, regOf, Option.getD, envOf, List.range, List.range.loop, go_sem, Nat.reduceBEq, Nat.reduceEqDiff, Option.some.injEq, reduceCtorEq, envS, Tryz.f32]
    simp only [go_sem, Nat.reduceBEq, Nat.reduceAdd, Nat.reduceSub, Nat.reduceEqDiff, Nat.reduceLeDiff, Nat.reduceMul, rgT, z_regionT, allocs, isv?, z_step, z_stepE, okDst, wantedA, evalOp, evalV, evalS, storeAt, look, ofV, ofC, putA, clearA, lookV, lookVs, lookParts, adrOk, baseAt, baseOf, loadAt, partA, binA, unA, resOf, mkRes, envOf, List.range, List.range.loop, evalBuiltin, liveW, regOf, startE, optN, mapGet, mapPut, orZero, keyOk, cellOk, decide_eq_true_eq, Bool.not_eq_true', decide_eq_false_iff_not, ite_not, not_true_eq_false, not_false_eq_true, reduceCtorEq, and_true, true_and, and_self, envS, hi', firstE, if_true]
  | succ n ih =>
    intro i hi
    have hlt : i < es.length := by omega
    have hw := w_inc hlt (by omega)
    have hlt' : (i : Int) < (es.length : Int) := by omega
    have ih' := ih (i + 1) (by omega)
    have h42 := c42' (σ := σ) (base := σ.length) (m := m) hs he hlen hlt (fun _ => hsrt)
    rw [loopM_step (by kernel_rfl)]
    simp only [loopOf, findLoop, regOf, Option.getD, envOf, List.range, List.range.loop, go_sem, Nat.reduceBEq, Nat.reduceEqDiff, Option.some.injEq, reduceCtorEq, envS, Tryz.f32] at ih' ⊢
    unfold firstE
    generalize errAt ns es (anyC ns es) i = q at *
    by_cases hq : q = 0
    · subst hq
      simp only [go_sem, Nat.reduceBEq, Nat.reduceAdd, Nat.reduceSub, Nat.reduceEqDiff, Nat.reduceLeDiff, Nat.reduceMul, rgT, z_regionT, allocs, isv?, z_step, z_stepE, okDst, wantedA, evalOp, evalV, evalS, storeAt, look, ofV, ofC, putA, clearA, lookV, lookVs, lookParts, adrOk, baseAt, baseOf, loadAt, partA, binA, unA, resOf, mkRes, envOf, List.range, List.range.loop, evalBuiltin, liveW, regOf, startE, optN, mapGet, mapPut, orZero, keyOk, cellOk, decide_eq_true_eq, Bool.not_eq_true', decide_eq_false_iff_not, ite_not, not_true_eq_false, not_false_eq_true, reduceCtorEq, and_true, true_and, and_self, Int.reduceEq, envS, hv, hv2, hlt', hw, h42, ih', if_true, ne_eq]
    · simp only [go_sem, Nat.reduceBEq, Nat.reduceAdd, Nat.reduceSub, Nat.reduceEqDiff, Nat.reduceLeDiff, Nat.reduceMul, rgT, z_regionT, allocs, isv?, z_step, z_stepE, okDst, wantedA, evalOp, evalV, evalS, storeAt, look, ofV, ofC, putA, clearA, lookV, lookVs, lookParts, adrOk, baseAt, baseOf, loadAt, partA, binA, unA, resOf, mkRes, envOf, List.range, List.range.loop, evalBuiltin, liveW, regOf, startE, optN, mapGet, mapPut, orZero, keyOk, cellOk, decide_eq_true_eq, Bool.not_eq_true', decide_eq_false_iff_not, ite_not, not_true_eq_false, not_false_eq_true, reduceCtorEq, and_true, true_and, and_self, envS, hv, hv2, hlt', hw, h42, hq, if_false, ne_eq]

set_option maxRecDepth 100000 in
set_option maxHeartbeats 8000000 in
/-- The edges of a graph that is not sorted. -/
theorem loop41 {σ0 σ : St} {fn fe : Bool} {id : Nat} {ns : List ND} {es : List ED} {m : Int} (hlen : es.length < 2^62) (hrow : σ[id]? = some (.row 4 ((sortE es).map edgeA))) : ∀ n (i : Nat), i + n = es.length → (∀ k, k < i → errAt ns es (anyC ns es) k = 0) →
    loopM Tryz.prog cfI 52 σ0.length (loopOf Tryz.f52 4) (envS 50 [(1, .var [.list fn 3 (ns.map nodeA), .list fe 4 (es.map edgeA), .int .i64 m]), (3, .var [.list fn 3 (ns.map nodeA), .row 4 id es.length 0 es.length false, .int .i64 0]), (17, .val (.list fe 4 (es.map edgeA))), (18, .val (.int .i64 es.length)), (19, .val (.int .i64 i))], σ) =
    if firstE (errAt ns es (anyC ns es)) n i = 0 then some (.exit 0, envS 50 [], σ) else some (.ret, envS 50 [(2, .val (.int .i64 (firstE (errAt ns es (anyC ns es)) n i)))], σ) := by
  intro n
  induction n with
  | zero =>
    intro i hi hok
    have hi' : ¬ ((i : Int) < es.length) := by omega
    rw [loopM_step (by kernel_rfl)]
    simp only [loopOf, findLoop, regOf, Option.getD, envOf, List.range, List.range.loop, go_sem, Nat.reduceBEq, Nat.reduceEqDiff, Option.some.injEq, reduceCtorEq, envS, Tryz.f52]
    simp only [go_sem, Nat.reduceBEq, Nat.reduceAdd, Nat.reduceSub, Nat.reduceEqDiff, Nat.reduceLeDiff, Nat.reduceMul, rgT, z_regionT, allocs, isv?, z_step, z_stepE, okDst, wantedA, evalOp, evalV, evalS, storeAt, look, ofV, ofC, putA, clearA, lookV, lookVs, lookParts, adrOk, baseAt, baseOf, loadAt, partA, binA, unA, resOf, mkRes, envOf, List.range, List.range.loop, evalBuiltin, liveW, regOf, startE, optN, mapGet, mapPut, orZero, keyOk, cellOk, decide_eq_true_eq, Bool.not_eq_true', decide_eq_false_iff_not, ite_not, not_true_eq_false, not_false_eq_true, reduceCtorEq, and_true, true_and, and_self, envS, hi', firstE, if_true]
  | succ n ih =>
    intro i hi hok
    have hlt : i < es.length := by omega
    obtain ⟨⟨e1, e2, e3, e4⟩, _, hel, hget⟩ := drop_at edgeA hlt
    have heq : eAt es i = (e1, e2, e3, e4) := by unfold eAt; rw [List.getD_eq_getElem?_getD, hget]; rfl
    have hw := w_inc hlt (by omega)
    have hlt' : (i : Int) < (es.length : Int) := by omega
    have h0i : (0 : Int) ≤ (i : Int) := by omega
    have hfix := fix_at (ns := ns) hlt
    rw [heq] at hfix
    have hrow' : σ[id]? = some (.row 4 ((sortE es).map edgeA)) := hrow
    have hR : Sl σ 4 (.row 4 id es.length 0 es.length false) ((sortE es).map edgeA) := by
      have h := Sl.row (σ := σ) (sz := 4) (id := id) (xs := (sortE es).map edgeA) hrow false
      rw [List.length_map, sortE_len] at h
      exact h
    obtain ⟨v, hsl, hS, _⟩ := Sl.slice (σ := σ) (sz := 4) (xs := es.map edgeA) (l := 0) (k := i + 1) (lo := none) (hi := some ((i + 1 : Nat) : Int)) (Sl.list (f := fe) (es.map edgeA)) NL.list (Nat.zero_le _) (by simp; omega) rfl rfl
    rw [List.drop_zero, Nat.sub_zero, ← List.map_take] at hS
    have hvv := hS.v
    have hvc := hS.cells
    have h42 := fun b => c42' (σ := σ) (base := b) (m := 0) (i := i) (Sl.list (σ := σ) (sz := 3) (f := fn) (ns.map nodeA)) hS (by simp; omega) (by simp; omega) (srt_prefix hlt hok)
    have hl : lenS (.list fe 4 (es.map edgeA)) = some es.length := by simp [lenS]
    have h63 : ∀ base, errAt ns (es.take (i + 1)) (anyC ns (es.take (i + 1))) i = 20 → callL Tryz.prog cfI 78 [.agg [.list fn 3 (ns.map nodeA), .row 4 id es.length 0 es.length false, .int .i64 0], .agg [.int .i64 e1, .int .i64 e2, .int .i64 e3, .int .i64 e4]] σ base = some (.bool (fitsB ns (anyC ns es) (e1, e2, e3, e4)), σ) := by
      intro base hr
      rw [take_err hlt, heq] at hr
      obtain ⟨hok2, _, _⟩ := edgeErr_cases (.inr hr)
      have hany : anyC ns (sortE es) = anyC ns es := by
        funext c f
        unfold anyC
        exact sortE_any es _
      have h := c63' (σ := σ) (base := base) (m := 0) (en := anyC ns (sortE es)) (Sl.list (σ := σ) (sz := 3) (f := fn) (ns.map nodeA)) hR.v hok2 (fun b c f => c88 (Sl.list (σ := σ) (sz := 3) (f := fn) (ns.map nodeA)) hR (by rw [sortE_len]; omega) (sortE_srt es))
      rw [hany] at h
      exact h
    have ih' := fun (h0 : errAt ns es (anyC ns es) i = 0) => ih (i + 1) (by omega) (fun k hk => by
      rcases Nat.lt_or_eq_of_le (Nat.le_of_lt_succ hk) with h | h
      · exact hok k h
      · rw [h]; exact h0)
    rw [loopM_step (by kernel_rfl)]
    simp only [loopOf, findLoop, regOf, Option.getD, envOf, List.range, List.range.loop, go_sem, Nat.reduceBEq, Nat.reduceEqDiff, Option.some.injEq, reduceCtorEq, envS, Tryz.f52] at ih' ⊢
    replace hel : (es.map edgeA)[i]? = some (.agg [.int .i64 e1, .int .i64 e2, .int .i64 e3, .int .i64 e4]) := hel
    unfold firstE
    clear ih hok hR hS hrow
    generalize errAt ns (es.take (i + 1)) (anyC ns (es.take (i + 1))) i = r at *
    generalize errAt ns es (anyC ns es) i = q at *
    generalize fitsB ns (anyC ns es) (e1, e2, e3, e4) = t at *
    generalize es.map edgeA = A at *
    by_cases hr : r = 20
    · have h63' := fun b => h63 b hr
      subst hr
      by_cases hk : e3 = 2
      · subst hk
        have hq : q = 20 := by rw [← hfix, if_neg (fun h => h.2.1 rfl)]
        subst hq
        simp (config := { maxSteps := 4000000 }) only [go_sem, Nat.reduceBEq, Nat.reduceAdd, Nat.reduceSub, Nat.reduceEqDiff, Nat.reduceLeDiff, Nat.reduceMul, rgT, z_regionT, allocs, isv?, z_step, z_stepE, okDst, wantedA, evalOp, evalV, evalS, storeAt, look, ofV, ofC, putA, clearA, lookV, lookVs, lookParts, adrOk, baseAt, baseOf, loadAt, partA, binA, unA, resOf, mkRes, envOf, List.range, List.range.loop, evalBuiltin, liveW, regOf, startE, optN, mapGet, mapPut, orZero, keyOk, cellOk, decide_eq_true_eq, Bool.not_eq_true', decide_eq_false_iff_not, ite_not, not_true_eq_false, not_false_eq_true, reduceCtorEq, and_true, true_and, and_self, Int.reduceEq, envS, hlt', h0i, hl, hel, hw, hsl, hvv, hvc, h42, if_false, ne_eq]
      · cases t with
        | true =>
          have hq : q = 0 := by rw [← hfix, if_pos ⟨rfl, hk, rfl⟩]
          have ih2 := ih' hq
          subst hq
          simp (config := { maxSteps := 4000000 }) only [go_sem, Nat.reduceBEq, Nat.reduceAdd, Nat.reduceSub, Nat.reduceEqDiff, Nat.reduceLeDiff, Nat.reduceMul, rgT, z_regionT, allocs, isv?, z_step, z_stepE, okDst, wantedA, evalOp, evalV, evalS, storeAt, look, ofV, ofC, putA, clearA, lookV, lookVs, lookParts, adrOk, baseAt, baseOf, loadAt, partA, binA, unA, resOf, mkRes, envOf, List.range, List.range.loop, evalBuiltin, liveW, regOf, startE, optN, mapGet, mapPut, orZero, keyOk, cellOk, decide_eq_true_eq, Bool.not_eq_true', decide_eq_false_iff_not, ite_not, not_true_eq_false, not_false_eq_true, reduceCtorEq, and_true, true_and, and_self, Int.reduceEq, envS, hlt', h0i, hl, hel, hw, hsl, hvv, hvc, h42, h63', hk, ih2, if_true, ne_eq]
        | false =>
          have hq : q = 20 := by rw [← hfix, if_neg (fun h => by cases h.2.2)]
          subst hq
          simp (config := { maxSteps := 4000000 }) only [go_sem, Nat.reduceBEq, Nat.reduceAdd, Nat.reduceSub, Nat.reduceEqDiff, Nat.reduceLeDiff, Nat.reduceMul, rgT, z_regionT, allocs, isv?, z_step, z_stepE, okDst, wantedA, evalOp, evalV, evalS, storeAt, look, ofV, ofC, putA, clearA, lookV, lookVs, lookParts, adrOk, baseAt, baseOf, loadAt, partA, binA, unA, resOf, mkRes, envOf, List.range, List.range.loop, evalBuiltin, liveW, regOf, startE, optN, mapGet, mapPut, orZero, keyOk, cellOk, decide_eq_true_eq, Bool.not_eq_true', decide_eq_false_iff_not, ite_not, not_true_eq_false, not_false_eq_true, reduceCtorEq, and_true, true_and, and_self, Int.reduceEq, envS, hlt', h0i, hl, hel, hw, hsl, hvv, hvc, h42, h63', hk, if_false, Bool.false_eq_true, ne_eq]
    · have hq : q = r := by rw [← hfix, if_neg (fun h => hr h.1)]
      subst hq
      by_cases hz : q = 0
      · have ih2 := ih' hz
        subst hz
        simp (config := { maxSteps := 4000000 }) only [go_sem, Nat.reduceBEq, Nat.reduceAdd, Nat.reduceSub, Nat.reduceEqDiff, Nat.reduceLeDiff, Nat.reduceMul, rgT, z_regionT, allocs, isv?, z_step, z_stepE, okDst, wantedA, evalOp, evalV, evalS, storeAt, look, ofV, ofC, putA, clearA, lookV, lookVs, lookParts, adrOk, baseAt, baseOf, loadAt, partA, binA, unA, resOf, mkRes, envOf, List.range, List.range.loop, evalBuiltin, liveW, regOf, startE, optN, mapGet, mapPut, orZero, keyOk, cellOk, decide_eq_true_eq, Bool.not_eq_true', decide_eq_false_iff_not, ite_not, not_true_eq_false, not_false_eq_true, reduceCtorEq, and_true, true_and, and_self, Int.reduceEq, envS, hlt', h0i, hl, hel, hw, hsl, hvv, hvc, h42, ih2, if_true, ne_eq]
      · simp (config := { maxSteps := 4000000 }) only [go_sem, Nat.reduceBEq, Nat.reduceAdd, Nat.reduceSub, Nat.reduceEqDiff, Nat.reduceLeDiff, Nat.reduceMul, rgT, z_regionT, allocs, isv?, z_step, z_stepE, okDst, wantedA, evalOp, evalV, evalS, storeAt, look, ofV, ofC, putA, clearA, lookV, lookVs, lookParts, adrOk, baseAt, baseOf, loadAt, partA, binA, unA, resOf, mkRes, envOf, List.range, List.range.loop, evalBuiltin, liveW, regOf, startE, optN, mapGet, mapPut, orZero, keyOk, cellOk, decide_eq_true_eq, Bool.not_eq_true', decide_eq_false_iff_not, ite_not, not_true_eq_false, not_false_eq_true, reduceCtorEq, and_true, true_and, and_self, Int.reduceEq, envS, hlt', h0i, hl, hel, hw, hsl, hvv, hvc, h42, hr, hz, if_false, ne_eq]

end Go.Can

namespace Go.Can
open Go Go.Proofs

theorem nodesOf_map : ∀ {l : List ND}, nodesOf (l.map nodeA) = some l
  | [] => rfl
  | e :: l => by
    have ih := nodesOf_map (l := l)
    rw [List.map_cons]
    unfold nodesOf
    rw [ih]
    rfl

theorem nodesP_list {σ : St} {base : Nat} {f : Bool} {xs : List AV} : nodesP [.list f 3 xs] σ base = match nodesOf xs with
    | some l => some (.int .i64 (errNodes l), σ)
    | none => none := rfl

theorem c38 {σ : St} {base : Nat} {f : Bool} {ns : List ND} : callL Tryz.prog cfI 49 [.list f 3 (ns.map nodeA)] σ base = some (.int .i64 (errNodes ns), σ) := by
  refine callL_prim (p := nodesP) rfl ?_
  rw [nodesP_list, nodesOf_map]

set_option maxRecDepth 100000 in
set_option maxHeartbeats 8000000 in
theorem c41 {σ : St} {base : Nat} {fn fe : Bool} {ns : List ND} {es : List ED} {m : Int} (hne : es ≠ []) (hlen : es.length ≤ 32768) :
    callL Tryz.prog cfI 52 [.agg [.list fn 3 (ns.map nodeA), .list fe 4 (es.map edgeA), .int .i64 m]] σ base = some (.int .i64 (firstE (errAt ns es (anyC ns es)) es.length 0), σ) := by
  have hll : (es.map edgeA).length = es.length := by simp
  have h0 : 0 < es.length := List.length_pos_iff.2 hne
  have h60 : ∀ b, callL Tryz.prog cfI 75 [.list fe 4 (es.map edgeA)] σ b = some (.row 4 σ.length es.length 0 es.length false, σ ++ [.row 4 (es.map edgeA)]) := fun b => by
    cases es with
    | nil => exact absurd rfl hne
    | cons e l => exact c60 hlen
  have h61 := c61 (σ := σ ++ [.row 4 (es.map edgeA)]) (base := σ.length) (id := σ.length) (l := es) (by simp) (Nat.le_refl _) h0 hlen
  have hset : (σ ++ [Ob.row 4 (es.map edgeA)]).set σ.length (.row 4 ((sortE es).map edgeA)) = σ ++ [.row 4 ((sortE es).map edgeA)] := by
    rw [List.set_append_right _ _ (Nat.le_refl _), Nat.sub_self]; rfl
  rw [hset] at h61
  have key0 := loop41 (σ0 := σ) (σ := σ ++ [.row 4 ((sortE es).map edgeA)]) (fn := fn) (fe := fe) (id := σ.length) (ns := ns) (es := es) (m := m) (by omega) (by simp) es.length 0 (by omega) (fun k hk => by omega)
  rw [show ((0 : Nat) : Int) = 0 from rfl] at key0
  have hl : lenS (.list fe 4 (es.map edgeA)) = some es.length := by simp [lenS]
  refine callL_pure (σ' := σ ++ [.row 4 ((sortE es).map edgeA)]) (v := .int .i64 (firstE (errAt ns es (anyC ns es)) es.length 0)) Tryz.func52 rfl (by kernel_rfl) rfl rfl (by simp) ?_ rfl
  rw [z_body]
  simp only [loopOf, findLoop, regOf, Option.getD, envOf, List.range, List.range.loop, go_sem, Nat.reduceBEq, Nat.reduceEqDiff, Option.some.injEq, reduceCtorEq, envS, Tryz.f52] at key0
  generalize firstE (errAt ns es (anyC ns es)) es.length 0 = q at *
  generalize (sortE es).map edgeA = B at *
  generalize es.map edgeA = A at *
  generalize es.length = n at *
  by_cases hq : q = 0
  · subst hq
    simp only [if_true] at key0
    simp (config := { maxSteps := 4000000 }) only [Tryz.f52, go_sem, Nat.reduceBEq, Nat.reduceAdd, Nat.reduceSub, Nat.reduceEqDiff, Nat.reduceLeDiff, Nat.reduceMul, rgT, z_regionT, allocs, isv?, z_step, z_stepE, okDst, wantedA, evalOp, evalV, evalS, storeAt, look, ofV, ofC, putA, clearA, lookV, lookVs, lookParts, adrOk, baseAt, baseOf, loadAt, partA, binA, unA, resOf, mkRes, envOf, List.range, List.range.loop, evalBuiltin, liveW, regOf, startE, optN, mapGet, mapPut, orZero, keyOk, cellOk, decide_eq_true_eq, Bool.not_eq_true', decide_eq_false_iff_not, ite_not, not_true_eq_false, not_false_eq_true, reduceCtorEq, and_true, true_and, and_self, h60, h61, hl, key0]
  · simp only [hq, if_false] at key0
    simp (config := { maxSteps := 4000000 }) only [Tryz.f52, go_sem, Nat.reduceBEq, Nat.reduceAdd, Nat.reduceSub, Nat.reduceEqDiff, Nat.reduceLeDiff, Nat.reduceMul, rgT, z_regionT, allocs, isv?, z_step, z_stepE, okDst, wantedA, evalOp, evalV, evalS, storeAt, look, ofV, ofC, putA, clearA, lookV, lookVs, lookParts, adrOk, baseAt, baseOf, loadAt, partA, binA, unA, resOf, mkRes, envOf, List.range, List.range.loop, evalBuiltin, liveW, regOf, startE, optN, mapGet, mapPut, orZero, keyOk, cellOk, decide_eq_true_eq, Bool.not_eq_true', decide_eq_false_iff_not, ite_not, not_true_eq_false, not_false_eq_true, reduceCtorEq, and_true, true_and, and_self, h60, h61, hl, key0]

set_option maxRecDepth 100000 in
set_option maxHeartbeats 8000000 in
theorem c20 {σ : St} {base : Nat} {fn fe : Bool} {ns : List ND} {es : List ED} {m : Int} :
    callL Tryz.prog cfI 32 [.agg [.list fn 3 (ns.map nodeA), .list fe 4 (es.map edgeA), .int .i64 m]] σ base = some (.int .i64 (superErr ns es m), σ) := by
  have hl : lenS (.list fn 3 (ns.map nodeA)) = some ns.length := by simp [lenS]
  have hl2 : lenS (.list fe 4 (es.map edgeA)) = some es.length := by simp [lenS]
  have h38 := fun b => c38 (σ := σ) (base := b) (f := fn) (ns := ns)
  refine callL_pure (σ' := σ) (v := .int .i64 (superErr ns es m)) Tryz.func32 rfl (by kernel_rfl) rfl rfl (by simp) ?_ rfl
  rw [z_body]
  unfold superErr
  by_cases a1 : 8192 < (ns.length : Int)
  · rw [if_pos (by omega)]
    clear h38
    generalize ns.map nodeA = B at *
    generalize es.map edgeA = A at *
    simp (config := { maxSteps := 4000000 }) only [Tryz.f32, go_sem, Nat.reduceBEq, Nat.reduceAdd, Nat.reduceSub, Nat.reduceEqDiff, Nat.reduceLeDiff, Nat.reduceMul, rgT, z_regionT, allocs, isv?, z_step, z_stepE, okDst, wantedA, evalOp, evalV, evalS, storeAt, look, ofV, ofC, putA, clearA, lookV, lookVs, lookParts, adrOk, baseAt, baseOf, loadAt, partA, binA, unA, resOf, mkRes, envOf, List.range, List.range.loop, evalBuiltin, liveW, regOf, startE, optN, mapGet, mapPut, orZero, keyOk, cellOk, decide_eq_true_eq, Bool.not_eq_true', decide_eq_false_iff_not, ite_not, not_true_eq_false, not_false_eq_true, reduceCtorEq, and_true, true_and, and_self, gt_iff_lt, ge_iff_le, hl, hl2, a1]
  by_cases a2 : 32768 < (es.length : Int)
  · rw [if_pos (by omega)]
    clear h38
    generalize ns.map nodeA = B at *
    generalize es.map edgeA = A at *
    simp (config := { maxSteps := 4000000 }) only [Tryz.f32, go_sem, Nat.reduceBEq, Nat.reduceAdd, Nat.reduceSub, Nat.reduceEqDiff, Nat.reduceLeDiff, Nat.reduceMul, rgT, z_regionT, allocs, isv?, z_step, z_stepE, okDst, wantedA, evalOp, evalV, evalS, storeAt, look, ofV, ofC, putA, clearA, lookV, lookVs, lookParts, adrOk, baseAt, baseOf, loadAt, partA, binA, unA, resOf, mkRes, envOf, List.range, List.range.loop, evalBuiltin, liveW, regOf, startE, optN, mapGet, mapPut, orZero, keyOk, cellOk, decide_eq_true_eq, Bool.not_eq_true', decide_eq_false_iff_not, ite_not, not_true_eq_false, not_false_eq_true, reduceCtorEq, and_true, true_and, and_self, gt_iff_lt, ge_iff_le, hl, hl2, a1, a2]
  rw [if_neg (by omega)]
  by_cases a3 : errNodes ns = 0
  · rw [if_neg (fun h => h a3)]
    rw [a3] at h38
    by_cases a4 : m < 0
    · rw [if_pos (.inl a4)]
      generalize ns.map nodeA = B at *
      generalize es.map edgeA = A at *
      simp (config := { maxSteps := 4000000 }) only [Tryz.f32, go_sem, Nat.reduceBEq, Nat.reduceAdd, Nat.reduceSub, Nat.reduceEqDiff, Nat.reduceLeDiff, Nat.reduceMul, rgT, z_regionT, allocs, isv?, z_step, z_stepE, okDst, wantedA, evalOp, evalV, evalS, storeAt, look, ofV, ofC, putA, clearA, lookV, lookVs, lookParts, adrOk, baseAt, baseOf, loadAt, partA, binA, unA, resOf, mkRes, envOf, List.range, List.range.loop, evalBuiltin, liveW, regOf, startE, optN, mapGet, mapPut, orZero, keyOk, cellOk, decide_eq_true_eq, Bool.not_eq_true', decide_eq_false_iff_not, ite_not, not_true_eq_false, not_false_eq_true, reduceCtorEq, and_true, true_and, and_self, Int.reduceEq, ne_eq, gt_iff_lt, ge_iff_le, hl, hl2, h38, a1, a2, a4]
    by_cases a5 : (ns.length : Int) ≤ m
    · rw [if_pos (.inr (.inl a5))]
      generalize ns.map nodeA = B at *
      generalize es.map edgeA = A at *
      simp (config := { maxSteps := 4000000 }) only [Tryz.f32, go_sem, Nat.reduceBEq, Nat.reduceAdd, Nat.reduceSub, Nat.reduceEqDiff, Nat.reduceLeDiff, Nat.reduceMul, rgT, z_regionT, allocs, isv?, z_step, z_stepE, okDst, wantedA, evalOp, evalV, evalS, storeAt, look, ofV, ofC, putA, clearA, lookV, lookVs, lookParts, adrOk, baseAt, baseOf, loadAt, partA, binA, unA, resOf, mkRes, envOf, List.range, List.range.loop, evalBuiltin, liveW, regOf, startE, optN, mapGet, mapPut, orZero, keyOk, cellOk, decide_eq_true_eq, Bool.not_eq_true', decide_eq_false_iff_not, ite_not, not_true_eq_false, not_false_eq_true, reduceCtorEq, and_true, true_and, and_self, Int.reduceEq, ne_eq, gt_iff_lt, ge_iff_le, hl, hl2, h38, a1, a2, a4, a5]
    have hin : 0 ≤ m ∧ m < (ns.length : Int) := by omega
    obtain ⟨i1, i2⟩ := hin
    have hnd := nd_at (ns := ns) (i := m) ⟨i1, i2⟩
    by_cases a6 : (nd ns m).2.1 = 1
    · rw [if_neg (by rintro (h | h | h); exact a4 h; exact a5 h; exact h a6)]
      have h39 := c39 (σ := σ) (base := σ.length) (es := es) (Sl.list (f := fe) (es.map edgeA)) (by omega)
      by_cases a7 : asc es (es.length - 1) = true
      · have key0 := loop20 (m := m) (ns := ns) (Sl.list (σ := σ) (f := fn) (ns.map nodeA)) (Sl.list (σ := σ) (f := fe) (es.map edgeA)) (by omega) (asc_srt a7) es.length 0 (by omega)
        rw [show ((0 : Nat) : Int) = 0 from rfl] at key0
        rw [a7] at h39
        simp only [loopOf, findLoop, regOf, Option.getD, envOf, List.range, List.range.loop, go_sem, Nat.reduceBEq, Nat.reduceEqDiff, Option.some.injEq, reduceCtorEq, envS, Tryz.f32] at key0
        generalize firstE (errAt ns es (anyC ns es)) es.length 0 = q at *
        generalize nd ns m = x at *
        obtain ⟨x1, x2, x3⟩ := x
        simp only at a6
        subst a6
        replace hnd : (ns.map nodeA)[m.toNat]? = some (.agg [.int .i64 x1, .int .i64 1, .int .i64 x3]) := hnd
        generalize ns.map nodeA = B at *
        generalize es.map edgeA = A at *
        by_cases hq : q = 0
        · subst hq
          simp only [if_true] at key0
          simp (config := { maxSteps := 4000000 }) only [Tryz.f32, go_sem, Nat.reduceBEq, Nat.reduceAdd, Nat.reduceSub, Nat.reduceEqDiff, Nat.reduceLeDiff, Nat.reduceMul, rgT, z_regionT, allocs, isv?, z_step, z_stepE, okDst, wantedA, evalOp, evalV, evalS, storeAt, look, ofV, ofC, putA, clearA, lookV, lookVs, lookParts, adrOk, baseAt, baseOf, loadAt, partA, binA, unA, resOf, mkRes, envOf, List.range, List.range.loop, evalBuiltin, liveW, regOf, startE, optN, mapGet, mapPut, orZero, keyOk, cellOk, decide_eq_true_eq, Bool.not_eq_true', decide_eq_false_iff_not, ite_not, not_true_eq_false, not_false_eq_true, reduceCtorEq, and_true, true_and, and_self, Int.reduceEq, ne_eq, gt_iff_lt, ge_iff_le, hl, hl2, h38, h39, hnd, i1, i2, a1, a2, a4, a5, key0]
        · simp only [hq, if_false] at key0
          simp (config := { maxSteps := 4000000 }) only [Tryz.f32, go_sem, Nat.reduceBEq, Nat.reduceAdd, Nat.reduceSub, Nat.reduceEqDiff, Nat.reduceLeDiff, Nat.reduceMul, rgT, z_regionT, allocs, isv?, z_step, z_stepE, okDst, wantedA, evalOp, evalV, evalS, storeAt, look, ofV, ofC, putA, clearA, lookV, lookVs, lookParts, adrOk, baseAt, baseOf, loadAt, partA, binA, unA, resOf, mkRes, envOf, List.range, List.range.loop, evalBuiltin, liveW, regOf, startE, optN, mapGet, mapPut, orZero, keyOk, cellOk, decide_eq_true_eq, Bool.not_eq_true', decide_eq_false_iff_not, ite_not, not_true_eq_false, not_false_eq_true, reduceCtorEq, and_true, true_and, and_self, Int.reduceEq, ne_eq, gt_iff_lt, ge_iff_le, hl, hl2, h38, h39, hnd, i1, i2, a1, a2, a4, a5, key0]
      · have hne : es ≠ [] := by
          rintro rfl
          exact a7 rfl
        have h41 := fun b => c41 (σ := σ) (base := b) (fn := fn) (fe := fe) (ns := ns) (m := m) hne (by omega)
        rw [Bool.eq_false_iff.2 a7] at h39
        generalize firstE (errAt ns es (anyC ns es)) es.length 0 = q at *
        generalize nd ns m = x at *
        obtain ⟨x1, x2, x3⟩ := x
        simp only at a6
        subst a6
        replace hnd : (ns.map nodeA)[m.toNat]? = some (.agg [.int .i64 x1, .int .i64 1, .int .i64 x3]) := hnd
        generalize ns.map nodeA = B at *
        generalize es.map edgeA = A at *
        simp (config := { maxSteps := 4000000 }) only [Tryz.f32, go_sem, Nat.reduceBEq, Nat.reduceAdd, Nat.reduceSub, Nat.reduceEqDiff, Nat.reduceLeDiff, Nat.reduceMul, rgT, z_regionT, allocs, isv?, z_step, z_stepE, okDst, wantedA, evalOp, evalV, evalS, storeAt, look, ofV, ofC, putA, clearA, lookV, lookVs, lookParts, adrOk, baseAt, baseOf, loadAt, partA, binA, unA, resOf, mkRes, envOf, List.range, List.range.loop, evalBuiltin, liveW, regOf, startE, optN, mapGet, mapPut, orZero, keyOk, cellOk, decide_eq_true_eq, Bool.not_eq_true', decide_eq_false_iff_not, ite_not, not_true_eq_false, not_false_eq_true, reduceCtorEq, and_true, true_and, and_self, Int.reduceEq, ne_eq, gt_iff_lt, ge_iff_le, hl, hl2, h38, h39, h41, hnd, i1, i2, a1, a2, a4, a5]
    · rw [if_pos (.inr (.inr a6))]
      generalize nd ns m = x at *
      obtain ⟨x1, x2, x3⟩ := x
      simp only at a6
      replace hnd : (ns.map nodeA)[m.toNat]? = some (.agg [.int .i64 x1, .int .i64 x2, .int .i64 x3]) := hnd
      generalize ns.map nodeA = B at *
      generalize es.map edgeA = A at *
      simp (config := { maxSteps := 4000000 }) only [Tryz.f32, go_sem, Nat.reduceBEq, Nat.reduceAdd, Nat.reduceSub, Nat.reduceEqDiff, Nat.reduceLeDiff, Nat.reduceMul, rgT, z_regionT, allocs, isv?, z_step, z_stepE, okDst, wantedA, evalOp, evalV, evalS, storeAt, look, ofV, ofC, putA, clearA, lookV, lookVs, lookParts, adrOk, baseAt, baseOf, loadAt, partA, binA, unA, resOf, mkRes, envOf, List.range, List.range.loop, evalBuiltin, liveW, regOf, startE, optN, mapGet, mapPut, orZero, keyOk, cellOk, decide_eq_true_eq, Bool.not_eq_true', decide_eq_false_iff_not, ite_not, not_true_eq_false, not_false_eq_true, reduceCtorEq, and_true, true_and, and_self, Int.reduceEq, ne_eq, gt_iff_lt, ge_iff_le, hl, hl2, h38, hnd, i1, i2, a1, a2, a4, a5, a6]
  · rw [if_pos a3]
    generalize errNodes ns = q at *
    generalize ns.map nodeA = B at *
    generalize es.map edgeA = A at *
    simp (config := { maxSteps := 4000000 }) only [Tryz.f32, go_sem, Nat.reduceBEq, Nat.reduceAdd, Nat.reduceSub, Nat.reduceEqDiff, Nat.reduceLeDiff, Nat.reduceMul, rgT, z_regionT, allocs, isv?, z_step, z_stepE, okDst, wantedA, evalOp, evalV, evalS, storeAt, look, ofV, ofC, putA, clearA, lookV, lookVs, lookParts, adrOk, baseAt, baseOf, loadAt, partA, binA, unA, resOf, mkRes, envOf, List.range, List.range.loop, evalBuiltin, liveW, regOf, startE, optN, mapGet, mapPut, orZero, keyOk, cellOk, decide_eq_true_eq, Bool.not_eq_true', decide_eq_false_iff_not, ite_not, not_true_eq_false, not_false_eq_true, reduceCtorEq, and_true, true_and, and_self, ne_eq, gt_iff_lt, ge_iff_le, hl, hl2, h38, a1, a2, a3]

end Go.Can
