/- The law Sorts. -/
import Derived.Test.YtgpopkpepebibaaWorkQ
set_option linter.unusedSimpArgs false
set_option linter.unusedVariables false
namespace Go.Can
open Go Go.Proofs

/-- The number that is pushed in round 'i'. -/
def turned (n t i : Nat) : Int := ((i + t) % n : Nat)

theorem turned_ne {n t i j : Nat} (hij : j < i) (hi : i < n) : turned n t i ≠ turned n t j := by
  unfold turned
  intro h
  have h' : (i + t) % n = (j + t) % n := by omega
  have h1 := Nat.div_add_mod (i + t) n
  have h2 := Nat.div_add_mod (j + t) n
  rw [h'] at h1
  have h3 : n * ((i + t) / n) = n * ((j + t) / n) + (i - j) := by omega
  have h4 : (j + t) / n < (i + t) / n ∨ (i + t) / n ≤ (j + t) / n := by omega
  rcases h4 with h4 | h4
  · have : n * ((j + t) / n + 1) ≤ n * ((i + t) / n) := Nat.mul_le_mul_left _ h4
    rw [Nat.mul_add] at this
    omega
  · have : n * ((i + t) / n) ≤ n * ((j + t) / n) := Nat.mul_le_mul_left _ h4
    omega

theorem turned_fit {rank : List Int} {t i : Nat} (h : 0 < rank.length) : fitB rank (turned rank.length t i) = true := by
  unfold fitB turned
  rw [if_pos (by omega)]
  have := Nat.mod_lt (i + t) h
  simp only [Bool.and_eq_true, decide_eq_true_eq]
  exact ⟨Int.natCast_nonneg _, Int.ofNat_lt.2 this⟩

structure SortI (rank items : List Int) (t i : Nat) : Prop where
  chk : chkQ rank items = 0
  len : items.length = i
  mem : ∀ y ∈ items, ∃ j, j < i ∧ y = turned rank.length t j

set_option maxRecDepth 100000 in
set_option maxHeartbeats 4000000 in
theorem l5_loop {r : AV} {rank : List Int} {t : Nat} (hr : Ls r rank) (h0 : 0 < rank.length) (hn : rank.length ≤ 120) (ht : t < 256) :
    ∀ (k i : Nat) (a b : AV) (items : List Int), i + k = rank.length → Ls a rank → Ls b items → SortI rank items t i →
      ∃ a' b' items', loopM Try.prog cfW 5 0 (loopOf Try.f5 5) (envS 120 [(0, .val r), (1, .val (.int .u8 t)), (5, .var [a, b]), (6, .val (.int .i64 0)), (7, .val (.int .i64 i))], []) =
        some (.exit 0, envS 120 [(0, .val r), (5, .var [a', b']), (6, .val (.int .i64 0))], []) ∧ Ls a' rank ∧ Ls b' items' ∧ SortI rank items' t rank.length := by
  have rl := (hr.slw []).here.len
  have rv := (hr.slw []).here.v
  rw [ints_len] at rl
  intro k
  induction k with
  | zero =>
    intro i a b items hi la lb inv
    have hi' : i = rank.length := by omega
    subst hi'
    have hlt : ¬ ((rank.length : Int) < rank.length) := by omega
    refine ⟨a, b, items, ?_, la, lb, inv⟩
    rw [loopM_step (by rfl)]
    simp only [envS, loopOf, findLoop, regOf, Option.getD, envOf, List.range, List.range.loop, go_sem, Nat.reduceBEq, Nat.reduceEqDiff, Option.some.injEq, reduceCtorEq, Try.f5]
    simp only [go_sem, Nat.reduceBEq, Nat.reduceAdd, Nat.reduceSub, Nat.reduceEqDiff, Nat.reduceLeDiff, Nat.reduceMul, rgT, regionT, cfVars, cfKeep, allocs, isv?, stepO, okDst, wantedA, evalOp, evalV, evalS, storeAt, look, ofV, ofC, putA, clearA, lookV, lookVs, lookParts, adrOk, baseAt, baseOf, loadAt, partA, binA, unA, resOf, mkRes, envOf, List.range, List.range.loop, evalBuiltin, liveW, cfLive, cfOut, cfRes, regOf, startE, optN, mapGet, mapPut, orZero, keyOk, cellOk, rl, rv, hlt]
  | succ k ih =>
    intro i a b items hi la lb inv
    have hlt : ((i : Int) < rank.length) = True := by simp; omega
    have hfit := turned_fit (rank := rank) (t := t) (i := i) h0
    have hnew : turned rank.length t i ∉ items := fun hm => by
      obtain ⟨j, hj, e⟩ := inv.mem _ hm
      exact turned_ne hj (by omega) e
    have hil := inv.len
    obtain ⟨a1, b1, p1, la1, lb1⟩ := c13 (σ := []) (base := 0) (x := turned rank.length t i) la lb (by omega) (by omega)
    have hp := push_of inv.chk hfit (by omega)
    have hc := push_chk inv.chk hfit (by omega)
    rw [if_neg hnew] at hp hc
    rw [hp] at p1 la1 lb1
    simp only [] at p1 la1 lb1
    obtain ⟨a', b', items', g1, g2, g3, g4⟩ := ih (i + 1) a1 b1 (insL rank items (turned rank.length t i)) (by omega) la1 lb1 ⟨hc, by rw [insL_len, hil], fun y hy => by
      rcases insL_mem.1 hy with rfl | hy
      · exact ⟨i, by omega, rfl⟩
      · obtain ⟨j, hj, e⟩ := inv.mem y hy
        exact ⟨j, by omega, e⟩⟩
    refine ⟨a', b', items', ?_, g2, g3, g4⟩
    have hw : IntKind.i64.wrap ((i : Int) + 1) = ((i + 1 : Nat) : Int) := by rw [wrap_i64] <;> omega
    have hw2 : IntKind.i64.wrap (t : Int) = (t : Int) := by rw [wrap_i64] <;> omega
    have hw3 : IntKind.i64.wrap ((i : Int) + t) = ((i + t : Nat) : Int) := by rw [wrap_i64] <;> omega
    have hz : ¬ ((rank.length : Int) = 0) := by omega
    have hm : (((i + t : Nat) : Int)).tmod (rank.length : Int) = turned rank.length t i := by
      unfold turned
      rw [Int.tmod_eq_emod_of_nonneg (by omega)]
      simp
    have av := (la.slw []).here.v
    have ac := (la.slw []).here.cells
    have bv := (lb.slw []).here.v
    have bc := (lb.slw []).here.cells
    have av1 := (la1.slw []).here.v
    have ac1 := (la1.slw []).here.cells
    have bv1 := (lb1.slw []).here.v
    have bc1 := (lb1.slw []).here.cells
    rw [loopM_step (by rfl)]
    generalize turned rank.length t i = x at hm p1
    simp only [envS, loopOf, findLoop, regOf, Option.getD, envOf, List.range, List.range.loop, go_sem, Nat.reduceBEq, Nat.reduceEqDiff, Option.some.injEq, reduceCtorEq, Try.f5] at g1 ⊢
    simp only [go_sem, Nat.reduceBEq, Nat.reduceAdd, Nat.reduceSub, Nat.reduceEqDiff, Nat.reduceLeDiff, Nat.reduceMul, rgT, regionT, cfVars, cfKeep, allocs, isv?, stepO, okDst, wantedA, evalOp, evalV, evalS, storeAt, look, ofV, ofC, putA, clearA, lookV, lookVs, lookParts, adrOk, baseAt, baseOf, loadAt, partA, binA, unA, resOf, mkRes, envOf, List.range, List.range.loop, evalBuiltin, liveW, cfLive, cfOut, cfRes, regOf, startE, optN, mapGet, mapPut, orZero, keyOk, cellOk, rl, rv, hlt, hw, hw2, hw3, hz, hm, av, ac, bv, bc, av1, ac1, bv1, bc1, p1, g1]

set_option maxRecDepth 100000 in
set_option maxHeartbeats 8000000 in
theorem l5_loop2 {σ : St} {r d : AV} {rank items : List Int} (hr : Ls r rank) (hd : Slw σ d items) (h0 : 0 < rank.length) (hn : items.length ≤ 8192) (hg : GoodL rank items) :
    ∀ (k i : Nat), 1 ≤ i → i + k = items.length →
      loopM Try.prog cfW 5 0 (loopOf Try.f5 12) (envS 120 [(0, .val r), (8, .val d), (9, .val (.int .i64 i))], σ) = some (.exit 2, envS 120 [], σ) := by
  have rl := (hr.slw σ).here.len
  have rv := (hr.slw σ).here.v
  have re := (hr.slw σ).here.el
  have dl := hd.here.len
  have dv := hd.here.v
  have de := hd.here.el
  rw [ints_len] at rl dl
  intro k
  induction k with
  | zero =>
    intro i h1 hi
    have hlt : ¬ ((i : Int) < items.length) := by omega
    rw [loopM_step (by rfl)]
    simp only [envS, loopOf, findLoop, regOf, Option.getD, envOf, List.range, List.range.loop, go_sem, Nat.reduceBEq, Nat.reduceEqDiff, Option.some.injEq, reduceCtorEq, Try.f5]
    simp only [go_sem, Nat.reduceBEq, Nat.reduceAdd, Nat.reduceSub, Nat.reduceEqDiff, Nat.reduceLeDiff, Nat.reduceMul, rgT, regionT, cfVars, cfKeep, allocs, isv?, stepO, okDst, wantedA, evalOp, evalV, evalS, storeAt, look, ofV, ofC, putA, clearA, lookV, lookVs, lookParts, adrOk, baseAt, baseOf, loadAt, partA, binA, unA, resOf, mkRes, envOf, List.range, List.range.loop, evalBuiltin, liveW, cfLive, cfOut, cfRes, regOf, startE, optN, mapGet, mapPut, orZero, keyOk, cellOk, dl, dv, hlt]
  | succ k ih =>
    intro i h1 hi
    obtain ⟨m, rfl⟩ : ∃ m, i = m + 1 := ⟨i - 1, by omega⟩
    have hlt : (((m + 1 : Nat) : Int) < items.length) = True := by simp; omega
    have hlt2 : ((m : Int) < items.length) = True := by simp; omega
    have hw : IntKind.i64.wrap (((m + 1 : Nat) : Int) + 1) = ((m + 1 + 1 : Nat) : Int) := by rw [wrap_i64] <;> omega
    have hw2 : IntKind.i64.wrap (((m + 1 : Nat) : Int) - 1) = (m : Int) := by rw [wrap_i64] <;> omega
    have g1 := (in_rangeN (l := items) (i := m) (by omega)).2
    have g2 := (in_rangeN (l := items) (i := m + 1) (by omega)).2
    have m1 : items.getD m 0 ∈ items := by have : m < items.length := by omega
                                           simp [this]
    have m2 : items.getD (m + 1) 0 ∈ items := by have : m + 1 < items.length := by omega
                                                 simp [this]
    have f1 := fit_range (hg.fit _ m1) (by omega)
    have f2 := fit_range (hg.fit _ m2) (by omega)
    have hne : items.getD m 0 ≠ items.getD (m + 1) 0 := by
      have a1 : m < items.length := by omega
      have a2 : m + 1 < items.length := by omega
      have gn : items.Pairwise (· ≠ ·) := hg.nod
      have := List.pairwise_iff_getElem.1 gn m (m + 1) a1 a2 (by omega)
      simpa [a1, a2] using this
    have hok : Ok2 rank (items.getD m 0) (items.getD (m + 1) 0) := by
      have a1 : m < items.length := by omega
      have a2 : m + 1 < items.length := by omega
      have := List.pairwise_iff_getElem.1 (hg.srt (by omega)) m (m + 1) a1 a2 (by omega)
      simpa [a1, a2] using this
    have ih' := ih (m + 1 + 1) (by omega) (by omega)
    obtain ⟨q1, q2, q3⟩ := in_range f1
    obtain ⟨q4, q5, q6⟩ := in_range f2
    rw [ints_len] at q2 q5
    simp only [Ok2, bef, Bool.or_eq_false_iff, Bool.and_eq_false_iff, decide_eq_false_iff_not] at hok
    rw [loopM_step (by rfl)]
    simp only [envS, loopOf, findLoop, regOf, Option.getD, envOf, List.range, List.range.loop, go_sem, Nat.reduceBEq, Nat.reduceEqDiff, Option.some.injEq, reduceCtorEq, Try.f5] at ih' ⊢
    generalize items.getD m 0 = x at *
    generalize items.getD (m + 1) 0 = y at *
    generalize rank.getD x.toNat 0 = rx at *
    generalize rank.getD y.toNat 0 = ry at *
    have t1 : ¬ x < 0 := by omega
    have t2 : ¬ y < 0 := by omega
    have t3 : ¬ x ≥ (rank.length : Int) := by omega
    have t4 : ¬ y ≥ (rank.length : Int) := by omega
    have t5 : ¬ rx > ry := by omega
    have z0 : ((0 : Int) ≤ (m : Int)) = True := by simp
    have z1 : ((0 : Int) ≤ ((m + 1 : Nat) : Int)) = True := by simp; omega
    by_cases e : rx = ry
    · have t6 : ¬ x ≥ y := by omega
      simp only [go_sem, Nat.reduceBEq, Nat.reduceAdd, Nat.reduceSub, Nat.reduceEqDiff, Nat.reduceLeDiff, Nat.reduceMul, rgT, regionT, cfVars, cfKeep, allocs, isv?, stepO, okDst, wantedA, evalOp, evalV, evalS, storeAt, look, ofV, ofC, putA, clearA, lookV, lookVs, lookParts, adrOk, baseAt, baseOf, loadAt, partA, binA, unA, resOf, mkRes, envOf, List.range, List.range.loop, evalBuiltin, liveW, cfLive, cfOut, cfRes, regOf, startE, optN, mapGet, mapPut, orZero, keyOk, cellOk, rl, rv, re, dl, dv, de, hlt, hlt2, hw, hw2, g1, g2, q1, q2, q3, q4, q5, q6, t1, t2, t3, t4, t5, t6, e, z0, z1, ih']
    · simp only [go_sem, Nat.reduceBEq, Nat.reduceAdd, Nat.reduceSub, Nat.reduceEqDiff, Nat.reduceLeDiff, Nat.reduceMul, rgT, regionT, cfVars, cfKeep, allocs, isv?, stepO, okDst, wantedA, evalOp, evalV, evalS, storeAt, look, ofV, ofC, putA, clearA, lookV, lookVs, lookParts, adrOk, baseAt, baseOf, loadAt, partA, binA, unA, resOf, mkRes, envOf, List.range, List.range.loop, evalBuiltin, liveW, cfLive, cfOut, cfRes, regOf, startE, optN, mapGet, mapPut, orZero, keyOk, cellOk, rl, rv, re, dl, dv, de, hlt, hlt2, hw, hw2, g1, g2, q1, q2, q3, q4, q5, q6, t1, t2, t3, t4, t5, e, z0, z1, ih']

set_option maxRecDepth 100000 in
set_option maxHeartbeats 4000000 in
theorem l5 {r : AV} {rank : List Int} {t : Nat} (hr : Ls r rank) (ht : t < 256) : callL Try.prog cfW 5 [r, .int .u8 t] [] 0 = some (.bool true, []) := by
  have rl := (hr.slw []).here.len
  have rv := (hr.slw []).here.v
  rw [ints_len] at rl
  refine callL_pure (σ' := []) (v := .bool true) Try.func5 rfl (by kernel_rfl) rfl rfl (by simp) ?_ rfl
  unfold bodyT
  by_cases h1 : (rank.length : Int) = 0
  · simp only [Try.f5, go_sem, Nat.reduceBEq, Nat.reduceAdd, Nat.reduceSub, Nat.reduceEqDiff, Nat.reduceLeDiff, Nat.reduceMul, rgT, regionT, cfVars, cfKeep, allocs, isv?, stepO, okDst, wantedA, evalOp, evalV, evalS, storeAt, look, ofV, ofC, putA, clearA, lookV, lookVs, lookParts, adrOk, baseAt, baseOf, loadAt, partA, binA, unA, resOf, mkRes, envOf, List.range, List.range.loop, evalBuiltin, liveW, cfLive, cfOut, cfRes, regOf, startE, optN, mapGet, mapPut, orZero, keyOk, cellOk, rl, rv, h1, c8]
  by_cases h2 : (rank.length : Int) > 120
  · simp only [Try.f5, go_sem, Nat.reduceBEq, Nat.reduceAdd, Nat.reduceSub, Nat.reduceEqDiff, Nat.reduceLeDiff, Nat.reduceMul, rgT, regionT, cfVars, cfKeep, allocs, isv?, stepO, okDst, wantedA, evalOp, evalV, evalS, storeAt, look, ofV, ofC, putA, clearA, lookV, lookVs, lookParts, adrOk, baseAt, baseOf, loadAt, partA, binA, unA, resOf, mkRes, envOf, List.range, List.range.loop, evalBuiltin, liveW, cfLive, cfOut, cfRes, regOf, startE, optN, mapGet, mapPut, orZero, keyOk, cellOk, rl, rv, h1, h2, c8]
  obtain ⟨a0, b0, p0, la0, lb0⟩ := c9 (σ := []) (base := 0) (hr.slw []) (by omega)
  rw [if_neg (by omega)] at la0 p0
  obtain ⟨a', b', items', g1, g2, g3, g4⟩ := l5_loop hr (by omega) (by omega) ht rank.length 0 a0 b0 [] (by omega) la0 lb0
    ⟨chkQ_iff.2 ⟨by omega, by simp, ⟨fun y hy => by simp at hy, List.nodup_nil, fun _ => List.Pairwise.nil⟩⟩, rfl, fun y hy => by simp at hy⟩
  have hil := g4.len
  obtain ⟨d, hd, sd⟩ := c15 (base := 0) (g2.slw []) (g3.slw []) (by omega)
  rw [if_pos g4.chk] at sd
  have dl := sd.here.len
  have dv := sd.here.v
  rw [ints_len, hil] at dl
  have key := l5_loop2 hr sd (by omega) (by omega) (chkQ_iff.1 g4.chk).2.2 (items'.length - 1) 1 (Nat.le_refl _) (by omega)
  have av := (la0.slw []).here.v
  have ac := (la0.slw []).here.cells
  have bv := (lb0.slw []).here.v
  have bc := (lb0.slw []).here.cells
  have av1 := (g2.slw []).here.v
  have ac1 := (g2.slw []).here.cells
  have bv1 := (g3.slw []).here.v
  have bc1 := (g3.slw []).here.cells
  rw [show ((0 : Nat) : Int) = 0 from rfl] at g1
  rw [show ((1 : Nat) : Int) = 1 from rfl] at key
  simp only [envS, loopOf, findLoop, regOf, Option.getD, envOf, List.range, List.range.loop, go_sem, Nat.reduceBEq, Nat.reduceEqDiff, Option.some.injEq, reduceCtorEq, Try.f5] at g1 key
  simp only [Try.f5, go_sem, Nat.reduceBEq, Nat.reduceAdd, Nat.reduceSub, Nat.reduceEqDiff, Nat.reduceLeDiff, Nat.reduceMul, rgT, regionT, cfVars, cfKeep, allocs, isv?, stepO, okDst, wantedA, evalOp, evalV, evalS, storeAt, look, ofV, ofC, putA, clearA, lookV, lookVs, lookParts, adrOk, baseAt, baseOf, loadAt, partA, binA, unA, resOf, mkRes, envOf, List.range, List.range.loop, evalBuiltin, liveW, cfLive, cfOut, cfRes, regOf, startE, optN, mapGet, mapPut, orZero, keyOk, cellOk, rl, rv, h1, h2, p0, av, ac, bv, bc, g1, av1, ac1, bv1, bc1, hd, dl, dv, key, c8]

end Go.Can
