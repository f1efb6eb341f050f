/- Contracts: the reference's Push. -/
import Derived.Test.YtgpopkpepebibaaWorkI
set_option linter.unusedSimpArgs false
set_option linter.unusedVariables false
namespace Go.Can
open Go Go.Proofs

theorem chkL_fit {rank : List Int} : ∀ {l pre : List Int}, chkL rank pre l = 0 → ∀ y ∈ l, fitB rank y = true
  | [], _, _, y, hy => by cases hy
  | x :: xs, pre, h, y, hy => by
    unfold chkL at h
    split at h
    · rename_i hx
      rcases List.mem_cons.1 hy with rfl | hy
      · exact hx
      · split at h
        · cases h
        · split at h
          · cases h
          · exact chkL_fit h y hy
    · cases h

theorem chkQ_fit {rank items : List Int} (h : chkQ rank items = 0) : ∀ y ∈ items, fitB rank y = true := by
  unfold chkQ at h
  split at h
  · cases h
  · exact chkL_fit h

theorem chkQ_len {rank items : List Int} (h : chkQ rank items = 0) : items.length ≤ 8192 ∧ rank.length ≤ 8192 := by
  unfold chkQ at h
  split at h
  · cases h
  · omega

/-- Does 'y' stand ahead of 'x', where 'x' is laid? -/
def ahead (rank : List Int) (x y : Int) : Bool := decide ((rank.length : Int) = 0) || bef rank y x

set_option maxRecDepth 100000 in
set_option maxHeartbeats 4000000 in
theorem c19_loop {σ : St} {base : Nat} {r it : AV} {rank items : List Int} {x : Int} (hr : Sl σ 1 r (ints rank)) (hi : Sl σ 1 it (ints items)) (hlen : items.length < 2^62) (hx : fitB rank x = true) (hf : ∀ y ∈ items, fitB rank y = true) :
    ∀ (rest pre : List Int), items = pre ++ rest →
      loopM Try.prog cfW 19 base (loopOf Try.f19 11) (envS 74 [(1, .val (.int .i64 x)), (2, .var [r, it]), (4, .var [.list true 0 [], .list true 0 []]), (7, .val (.int .i64 pre.length))], σ) =
        some (.exit 0, envS 74 [(1, .val (.int .i64 x)), (2, .var [r, it]), (4, .var [.list true 0 [], .list true 0 []]), (7, .val (.int .i64 (pre.length + (rest.takeWhile (ahead rank x)).length : Nat)))], σ) := by
  have rl := hr.len
  have rv := hr.v
  have re := hr.el
  have il := hi.len
  have iv := hi.v
  have ie := hi.el
  rw [ints_len] at rl il
  intro rest
  induction rest with
  | nil =>
    intro pre he
    have hlt : ¬ ((pre.length : Int) < items.length) := by rw [he]; simp
    rw [loopM_step (by rfl)]
    simp only [envS, loopOf, findLoop, regOf, Option.getD, envOf, List.range, List.range.loop, go_sem, Nat.reduceBEq, Try.f19]
    simp only [go_sem, Nat.reduceBEq, Nat.reduceAdd, Nat.reduceSub, Nat.reduceEqDiff, Nat.reduceLeDiff, Nat.reduceMul, rgT, regionT, cfVars, cfKeep, allocs, isv?, stepO, okDst, wantedA, evalOp, evalV, evalS, storeAt, look, ofV, ofC, putA, clearA, lookV, lookVs, lookParts, adrOk, baseAt, baseOf, loadAt, partA, binA, unA, resOf, mkRes, envOf, List.range, List.range.loop, evalBuiltin, liveW, cfLive, cfOut, cfRes, regOf, startE, optN, mapGet, mapPut, orZero, keyOk, cellOk, rl, rv, il, iv, hlt, List.takeWhile_nil]
  | cons y rest ih =>
    intro pre he
    have hlt : ((pre.length : Int) < items.length) = True := by rw [he]; simp; omega
    have hget : (ints items)[pre.length]? = some (.int .i64 y) := by rw [he]; simp [ints]
    have hw : IntKind.i64.wrap ((pre.length : Int) + 1) = (((pre ++ [y]).length : Nat) : Int) := by
      have : pre.length < items.length := by rw [he]; simp
      rw [wrap_i64] <;> simp <;> omega
    have hyf : fitB rank y = true := hf y (by rw [he]; simp)
    rw [loopM_step (by rfl)]
    have ih' := ih (pre ++ [y]) (by rw [he]; simp)
    have hl2 : ∀ n, (pre ++ [y]).length + n = pre.length + (n + 1) := fun n => by simp; omega
    rw [hl2] at ih'
    simp only [envS, loopOf, findLoop, regOf, Option.getD, envOf, List.range, List.range.loop, go_sem, Nat.reduceBEq, Try.f19] at ih' ⊢
    by_cases h1 : (rank.length : Int) = 0
    · have ha : ahead rank x y = true := by simp [ahead, h1]
      simp only [go_sem, Nat.reduceBEq, Nat.reduceAdd, Nat.reduceSub, Nat.reduceEqDiff, Nat.reduceLeDiff, Nat.reduceMul, rgT, regionT, cfVars, cfKeep, allocs, isv?, stepO, okDst, wantedA, evalOp, evalV, evalS, storeAt, look, ofV, ofC, putA, clearA, lookV, lookVs, lookParts, adrOk, baseAt, baseOf, loadAt, partA, binA, unA, resOf, mkRes, envOf, List.range, List.range.loop, evalBuiltin, liveW, cfLive, cfOut, cfRes, regOf, startE, optN, mapGet, mapPut, orZero, keyOk, cellOk, rl, rv, re, il, iv, ie, hlt, hget, h1, hw, List.takeWhile_cons, ha, ih']
    · have h0 : (rank.length : Int) > 0 := by omega
      have hbef := c24 (base := base) hr (fit_range hyf h0) (fit_range hx h0)
      by_cases h2 : bef rank y x = true
      · have ha : ahead rank x y = true := by simp [ahead, h2]
        simp only [go_sem, Nat.reduceBEq, Nat.reduceAdd, Nat.reduceSub, Nat.reduceEqDiff, Nat.reduceLeDiff, Nat.reduceMul, rgT, regionT, cfVars, cfKeep, allocs, isv?, stepO, okDst, wantedA, evalOp, evalV, evalS, storeAt, look, ofV, ofC, putA, clearA, lookV, lookVs, lookParts, adrOk, baseAt, baseOf, loadAt, partA, binA, unA, resOf, mkRes, envOf, List.range, List.range.loop, evalBuiltin, liveW, cfLive, cfOut, cfRes, regOf, startE, optN, mapGet, mapPut, orZero, keyOk, cellOk, rl, rv, re, il, iv, ie, hlt, hget, h1, hbef, h2, hw, List.takeWhile_cons, ha, ih']
      · have h2' : bef rank y x = false := by simpa using h2
        have ha : ahead rank x y = false := by
          have h1' : ¬ rank = [] := fun e => h1 (by rw [e]; rfl)
          simp [ahead, h2', h1']
        simp only [go_sem, Nat.reduceBEq, Nat.reduceAdd, Nat.reduceSub, Nat.reduceEqDiff, Nat.reduceLeDiff, Nat.reduceMul, rgT, regionT, cfVars, cfKeep, allocs, isv?, stepO, okDst, wantedA, evalOp, evalV, evalS, storeAt, look, ofV, ofC, putA, clearA, lookV, lookVs, lookParts, adrOk, baseAt, baseOf, loadAt, partA, binA, unA, resOf, mkRes, envOf, List.range, List.range.loop, evalBuiltin, liveW, cfLive, cfOut, cfRes, regOf, startE, optN, mapGet, mapPut, orZero, keyOk, cellOk, rl, rv, re, il, iv, ie, hlt, hget, h1, hbef, h2', List.takeWhile_cons, ha, Nat.add_zero]

theorem takeWhile_split {l : List Int} {p : Int → Bool} : l.take (l.takeWhile p).length = l.takeWhile p ∧ l.drop (l.takeWhile p).length = l.dropWhile p := by
  induction l with
  | nil => exact ⟨rfl, rfl⟩
  | cons a l ih =>
    simp only [List.takeWhile_cons, List.dropWhile_cons]
    split
    · simp only [List.length_cons, List.take_succ_cons, List.drop_succ_cons, ih.1, ih.2, and_self]
    · simp

/-- The items with 'x' laid among them. -/
def insL (rank items : List Int) (x : Int) : List Int := items.takeWhile (ahead rank x) ++ x :: items.dropWhile (ahead rank x)

/-- What Push comes to: the rank, the items, the error. -/
def pushQ (rank items : List Int) (x : Int) : List Int × List Int × Int :=
  if chkQ rank items = 0 then
    if fitB rank x = true then
      if x ∈ items then (rank, items, 0)
      else if (items.length : Int) ≥ 8192 then ([], [], 3) else (rank, insL rank items x, 0)
    else ([], [], 4)
  else ([], [], chkQ rank items)

set_option maxRecDepth 100000 in
set_option maxHeartbeats 4000000 in
theorem c19 {σ : St} {base : Nat} {r it : AV} {rank items : List Int} {x : Int} (hr : Ls r rank) (hi : Ls it items) (hlen : items.length < 2^40) :
    ∃ a b, callL Try.prog cfW 19 [.agg [r, it], .int .i64 x] σ base = some (.tup [.agg [a, b], .int .i64 (pushQ rank items x).2.2], σ) ∧ Ls a (pushQ rank items x).1 ∧ Ls b (pushQ rank items x).2.1 := by
  have rv := (hr.slw σ).here.v
  have rc := (hr.slw σ).here.cells
  have iv := (hi.slw σ).here.v
  have ic := (hi.slw σ).here.cells
  have il := (hi.slw σ).here.len
  have ie := (hi.slw σ).here.el
  rw [ints_len] at il
  have hck := fun b => c18 (base := b) (hr.slw σ).here (hi.slw σ).here (hi.slw σ).nl (by omega)
  have hit := fun b => c29 (base := b) (hr.slw σ).here (x := x)
  have hat := fun b => c30 (base := b) (hi.slw σ).here (x := x) (by omega)
  unfold pushQ
  by_cases h1 : chkQ rank items = 0
  · rw [if_pos h1]
    by_cases h2 : fitB rank x = true
    · rw [if_pos h2]
      by_cases h3 : x ∈ items
      · rw [if_pos h3]
        refine ⟨r, it, ?_, hr, hi⟩
        refine callL_pure (σ' := σ) (v := .tup [.agg [r, it], .int .i64 0]) Try.func19 rfl (by kernel_rfl) rfl rfl (by simp) ?_ ?_
        · unfold bodyT
          simp only [Try.f19, go_sem, Nat.reduceBEq, Nat.reduceAdd, Nat.reduceSub, Nat.reduceEqDiff, Nat.reduceLeDiff, Nat.reduceMul, rgT, regionT, cfVars, cfKeep, allocs, isv?, stepO, okDst, wantedA, evalOp, evalV, evalS, storeAt, look, ofV, ofC, putA, clearA, lookV, lookVs, lookParts, adrOk, baseAt, baseOf, loadAt, partA, binA, unA, resOf, mkRes, envOf, List.range, List.range.loop, evalBuiltin, liveW, cfLive, cfOut, cfRes, regOf, startE, optN, mapGet, mapPut, orZero, keyOk, cellOk, rv, rc, ic, il, iv, hck, hit, hat, h1, h2, idx_mem, h3]
        · have q1 : freeze σ.length σ 4 r = some r := hr.frz
          have q2 : freeze σ.length σ 4 it = some it := hi.frz
          simp only [go_sem, q1, q2]
      · rw [if_neg h3]
        by_cases h4 : (items.length : Int) ≥ 8192
        · rw [if_pos h4]
          refine ⟨.list true 0 [], .list true 0 [], ?_, .nil, .nil⟩
          refine callL_pure (σ' := σ) (v := .tup [.agg [.list true 0 [], .list true 0 []], .int .i64 3]) Try.func19 rfl (by kernel_rfl) rfl rfl (by simp) ?_ rfl
          unfold bodyT
          simp only [Try.f19, go_sem, Nat.reduceBEq, Nat.reduceAdd, Nat.reduceSub, Nat.reduceEqDiff, Nat.reduceLeDiff, Nat.reduceMul, rgT, regionT, cfVars, cfKeep, allocs, isv?, stepO, okDst, wantedA, evalOp, evalV, evalS, storeAt, look, ofV, ofC, putA, clearA, lookV, lookVs, lookParts, adrOk, baseAt, baseOf, loadAt, partA, binA, unA, resOf, mkRes, envOf, List.range, List.range.loop, evalBuiltin, liveW, cfLive, cfOut, cfRes, regOf, startE, optN, mapGet, mapPut, orZero, keyOk, cellOk, rv, rc, ic, il, iv, hck, hit, hat, h1, h2, idx_mem, h3, h4]
        · rw [if_neg h4]
          have key := c19_loop (base := σ.length) (hr.slw σ).here (hi.slw σ).here (by omega) h2 (chkQ_fit h1) items [] rfl
          simp only [envS, loopOf, findLoop, regOf, Option.getD, envOf, List.range, List.range.loop, go_sem, Nat.reduceBEq, Try.f19, Nat.zero_add] at key
          have hsp := takeWhile_split (l := items) (p := ahead rank x)
          have hkl : (items.takeWhile (ahead rank x)).length ≤ items.length := by
            have := congrArg List.length hsp.1
            simp at this; omega
          obtain ⟨v1, g1, g2⟩ := hi.slice (i := 0) (k := (items.takeWhile (ahead rank x)).length) (lo := none) (hi := some ((items.takeWhile (ahead rank x)).length : Int)) (by omega) hkl rfl rfl
          obtain ⟨v2, g3, g4⟩ := hi.slice (i := (items.takeWhile (ahead rank x)).length) (k := items.length) (lo := some ((items.takeWhile (ahead rank x)).length : Int)) (hi := none) hkl (Nat.le_refl _) rfl rfl
          rw [List.drop_zero, Nat.sub_zero, hsp.1] at g2
          rw [hsp.2, List.take_of_length_le (by rw [← hsp.2]; simp)] at g4
          have hpd : items = items.takeWhile (ahead rank x) ++ items.dropWhile (ahead rank x) := (List.takeWhile_append_dropWhile).symm
          have hll : items.length = (items.takeWhile (ahead rank x)).length + (items.dropWhile (ahead rank x)).length := by rw [← List.length_append, ← hpd]
          unfold insL
          generalize items.takeWhile (ahead rank x) = pre at *
          generalize items.dropWhile (ahead rank x) = post at *
          have a1 := fun b => append_fresh (base := b) (σ := σ) (sz := 1) (bytes := 8) (s := 1) (ys := ints pre) (by rw [ints_len]; omega) (by omega)
          have a2 := append_row (base := σ.length) (σ := σ ++ [.row 1 (ints pre)]) (id := σ.length) (sz := 1) (bytes := 8) (xs := ints pre) (ys := [.int .i64 x]) (by simp) (Nat.le_refl _) (by rw [ints_len]; simp; omega) (by omega)
          have a3 := append_row (base := σ.length) (σ := σ ++ [.row 1 (ints pre ++ [.int .i64 x])]) (id := σ.length) (sz := 1) (bytes := 8) (xs := ints pre ++ [.int .i64 x]) (ys := ints post) (by simp) (Nat.le_refl _) (by simp [ints_len]; omega) (by omega)
          simp only [go_sem] at a1 a2 a3
          have v1e := (g2.slw σ).here.el
          have v2e := ((g4.slw σ).sl [.row 1 (ints pre ++ [.int .i64 x])]).el
          have v1v := (g2.slw σ).here.v
          have v2v := (g4.slw σ).here.v
          refine ⟨r, .list false 1 (ints (pre ++ x :: post)), ?_, hr, .list⟩
          refine callL_pure (σ' := σ ++ [.row 1 (ints (pre ++ x :: post))]) (v := .tup [.agg [r, .row 1 σ.length (pre ++ x :: post).length 0 (pre ++ x :: post).length false], .int .i64 0]) Try.func19 rfl (by kernel_rfl) rfl rfl (by simp) ?_ ?_
          · unfold bodyT
            simp only [Try.f19, go_sem, Nat.reduceBEq, Nat.reduceAdd, Nat.reduceSub, Nat.reduceEqDiff, Nat.reduceLeDiff, Nat.reduceMul, rgT, regionT, cfVars, cfKeep, allocs, isv?, stepO, okDst, wantedA, evalOp, evalV, evalS, storeAt, look, ofV, ofC, putA, clearA, lookV, lookVs, lookParts, adrOk, baseAt, baseOf, loadAt, partA, binA, unA, resOf, mkRes, envOf, List.range, List.range.loop, evalBuiltin, liveW, cfLive, cfOut, cfRes, regOf, startE, optN, mapGet, mapPut, orZero, keyOk, cellOk, rv, rc, ic, il, iv, hck, hit, hat, h1, h2, idx_mem, h3, h4, key, g1, g3, v1v, v2v, v1e, v2e, a1, a2, a3]
            rw [show (ints pre).length + 1 + (ints post).length = pre.length + (post.length + 1) by simp [ints]; omega, show ints (pre ++ x :: post) = ints pre ++ AV.int IntKind.i64 x :: ints post by simp [ints]]
          · have q1 : freeze σ.length (σ ++ [.row 1 (ints (pre ++ x :: post))]) 4 r = some r := hr.frz
            have q2 := frz_row (n := σ.length) (σ := σ ++ [.row 1 (ints (pre ++ x :: post))]) (k := 2) (id := σ.length) (l := pre ++ x :: post) (off := 0) (len := (pre ++ x :: post).length) (lim := false) (Nat.le_refl _) (by simp)
            simp only [List.drop_zero, List.take_length] at q2
            generalize (pre ++ x :: post).length = n at *
            simp only [go_sem, q1, q2]
    · have h2' : fitB rank x = false := by simpa using h2
      rw [if_neg h2]
      refine ⟨.list true 0 [], .list true 0 [], ?_, .nil, .nil⟩
      refine callL_pure (σ' := σ) (v := .tup [.agg [.list true 0 [], .list true 0 []], .int .i64 4]) Try.func19 rfl (by kernel_rfl) rfl rfl (by simp) ?_ rfl
      unfold bodyT
      simp only [Try.f19, go_sem, Nat.reduceBEq, Nat.reduceAdd, Nat.reduceSub, Nat.reduceEqDiff, Nat.reduceLeDiff, Nat.reduceMul, rgT, regionT, cfVars, cfKeep, allocs, isv?, stepO, okDst, wantedA, evalOp, evalV, evalS, storeAt, look, ofV, ofC, putA, clearA, lookV, lookVs, lookParts, adrOk, baseAt, baseOf, loadAt, partA, binA, unA, resOf, mkRes, envOf, List.range, List.range.loop, evalBuiltin, liveW, cfLive, cfOut, cfRes, regOf, startE, optN, mapGet, mapPut, orZero, keyOk, cellOk, rv, rc, ic, il, iv, hck, hit, h1, h2']
  · rw [if_neg h1]
    refine ⟨.list true 0 [], .list true 0 [], ?_, .nil, .nil⟩
    refine callL_pure (σ' := σ) (v := .tup [.agg [.list true 0 [], .list true 0 []], .int .i64 (chkQ rank items)]) Try.func19 rfl (by kernel_rfl) rfl rfl (by simp) ?_ rfl
    unfold bodyT
    simp only [Try.f19, go_sem, Nat.reduceBEq, Nat.reduceAdd, Nat.reduceSub, Nat.reduceEqDiff, Nat.reduceLeDiff, Nat.reduceMul, rgT, regionT, cfVars, cfKeep, allocs, isv?, stepO, okDst, wantedA, evalOp, evalV, evalS, storeAt, look, ofV, ofC, putA, clearA, lookV, lookVs, lookParts, adrOk, baseAt, baseOf, loadAt, partA, binA, unA, resOf, mkRes, envOf, List.range, List.range.loop, evalBuiltin, liveW, cfLive, cfOut, cfRes, regOf, startE, optN, mapGet, mapPut, orZero, keyOk, cellOk, rv, rc, ic, il, iv, hck, h1]

end Go.Can
