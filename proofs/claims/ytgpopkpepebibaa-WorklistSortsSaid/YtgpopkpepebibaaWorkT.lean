/- The law Runs. -/
import Derived.Test.YtgpopkpepebibaaWorkS
set_option linter.unusedSimpArgs false
set_option linter.unusedVariables false
namespace Go.Can
open Go Go.Proofs

/-- What the law's list and the worklist's items have in common. -/
structure RunI (rank items l : List Int) (i : Nat) : Prop where
  chk : chkQ rank items = 0
  perm : items.Perm l
  eq : ¬ (rank.length : Int) > 0 → items = l
  len : l.length ≤ i

theorem RunI.fit {rank items l : List Int} {i : Nat} (h : RunI rank items l i) : ∀ y ∈ l, fitB rank y = true := fun y hy => (chkQ_iff.1 h.chk).2.2.fit y (h.perm.mem_iff.2 hy)

theorem RunI.skip {rank items l : List Int} {i : Nat} (h : RunI rank items l i) : RunI rank items l (i + 1) := ⟨h.chk, h.perm, h.eq, by have := h.len; omega⟩

theorem wo_none {x : Int} {l : List Int} (h : x ∉ l) : wo x l = l := by
  unfold wo
  refine List.filter_eq_self.2 fun y hy => ?_
  simp
  rintro rfl
  exact h hy

theorem RunI.pop {rank ys l : List Int} {y : Int} {i : Nat} (h : RunI rank (y :: ys) l i) : RunI rank ys (wo y l) (i + 1) := by
  obtain ⟨g1, g2, g3⟩ := chkQ_iff.1 h.chk
  obtain ⟨g4, g5⟩ := g3.tail
  have e : wo y (y :: ys) = ys := by
    have : wo y (y :: ys) = wo y ys := by simp [wo]
    rw [this, wo_none g5]
  have hp : (wo y (y :: ys)).Perm (wo y l) := h.perm.filter _
  rw [e] at hp
  refine ⟨chkQ_iff.2 ⟨g1, by simp at g2; omega, g4⟩, hp, fun h0 => ?_, by have := (wo_len (x := y) (l := l)).1; have := h.len; omega⟩
  rw [← h.eq h0, e]

theorem RunI.push {rank items l : List Int} {x : Int} {i : Nat} (h : RunI rank items l i) (hi : i ≤ 200) (hx : fitB rank x = true) : RunI rank (if x ∈ items then items else insL rank items x) (if x ∈ l then l else l ++ [x]) (i + 1) := by
  have hl := h.perm.length_eq
  have hlen := h.len
  have hc := push_chk h.chk hx (by omega)
  by_cases hm : x ∈ items
  · rw [if_pos hm] at hc ⊢
    rw [if_pos (h.perm.mem_iff.1 hm)]
    exact h.skip
  · rw [if_neg hm] at hc ⊢
    rw [if_neg (fun e => hm (h.perm.mem_iff.2 e))]
    refine ⟨hc, ?_, fun h0 => by rw [insL_plain h0, h.eq h0], by simp; omega⟩
    have p1 : (insL rank items x).Perm (x :: items) := by
      unfold insL
      refine List.perm_middle.trans ?_
      rw [List.takeWhile_append_dropWhile]
    exact p1.trans ((h.perm.cons x).trans (List.perm_append_singleton x l).symm)

theorem RunI.least {rank ys l : List Int} {y : Int} {i : Nat} (h : RunI rank (y :: ys) l i) : ∃ x0 l0, l = x0 :: l0 ∧ leastF rank x0 l0 = y := by
  cases l with
  | nil => have := h.perm.length_eq; simp at this
  | cons x0 l0 => exact ⟨x0, l0, rfl, least_head (chkQ_iff.1 h.chk).2.2 (fun z => h.perm.mem_iff) h.eq⟩

/-- Where the numbers end that may be pushed. -/
def topQ (rank : List Int) : Int := if (rank.length : Int) > 0 then rank.length else 65536

theorem fit_top {rank : List Int} {x : Int} (h : 0 ≤ x) : fitB rank x = decide (x < topQ rank) := by
  unfold fitB topQ
  split <;> simp [h]

set_option maxRecDepth 100000 in
set_option maxHeartbeats 16000000 in
theorem l3_loop {r o : AV} {rank ops : List Int} (hr : Ls r rank) (ho : Ls o ops) (hn : ops.length ≤ 200) (hrn : rank.length ≤ 8192) :
    ∀ (rest pre : List Int) (a b w : AV) (items l : List Int) (σ : St), ops = pre ++ rest → Ls a rank → Ls b items → Wn σ w l → RunI rank items l pre.length →
      ∃ a' b' w' items' l' σ', loopM Try.prog cfW 3 0 (loopOf Try.f3 10) (envS 141 [(0, .val r), (1, .val o), (5, .var [a, b]), (7, .val w), (8, .val (.int .i64 pre.length))], σ) =
        some (.exit 0, envS 141 [(5, .var [a', b']), (7, .val w')], σ') ∧ Ls a' rank ∧ Ls b' items' ∧ Wn σ' w' l' ∧ RunI rank items' l' ops.length := by
  intro rest
  induction rest with
  | nil =>
    intro pre a b w items l σ he la lb hw inv
    have ol := (ho.slw σ).here.len
    have ov := (ho.slw σ).here.v
    have wv := hw.slw.here.v
    rw [ints_len] at ol
    have hlt : ¬ ((pre.length : Int) < ops.length) := by rw [he]; simp
    refine ⟨a, b, w, items, l, σ, ?_, la, lb, hw, by rw [he]; simpa using inv⟩
    rw [loopM_step (by rfl)]
    simp only [envS, loopOf, findLoop, regOf, Option.getD, envOf, List.range, List.range.loop, go_sem, Nat.reduceBEq, Nat.reduceEqDiff, Option.some.injEq, reduceCtorEq, Try.f3]
    simp only [go_sem, Nat.reduceBEq, Nat.reduceAdd, Nat.reduceSub, Nat.reduceEqDiff, Nat.reduceLeDiff, Nat.reduceMul, rgT, regionT, cfVars, cfKeep, allocs, isv?, stepO, okDst, wantedA, evalOp, evalV, evalS, storeAt, look, ofV, ofC, putA, clearA, lookV, lookVs, lookParts, adrOk, baseAt, baseOf, loadAt, partA, binA, unA, resOf, mkRes, envOf, List.range, List.range.loop, evalBuiltin, liveW, cfLive, cfOut, cfRes, regOf, startE, optN, mapGet, mapPut, orZero, keyOk, cellOk, ol, ov, wv, hlt]
  | cons x rest ih =>
    intro pre a b w items l σ he la lb hw inv
    have ol := (ho.slw σ).here.len
    have ov := (ho.slw σ).here.v
    have oe := fun s => (ho.slw s).here.el
    have rv := (hr.slw σ).here.v
    have rl := (hr.slw σ).here.len
    have wv := hw.slw.here.v
    have wl := hw.slw.here.len
    rw [ints_len] at ol wl rl
    have hol : ops.length = pre.length + (rest.length + 1) := by rw [he]; simp
    have hlt : ((pre.length : Int) < ops.length) = True := by simp; omega
    have hget : (ints ops)[pre.length]? = some (.int .i64 x) := by rw [he]; simp [ints]
    have hp0 : ((0 : Int) ≤ (pre.length : Int)) = True := by simp
    have hpl : (pre ++ [x]).length = pre.length + 1 := by simp
    have hw1 : IntKind.i64.wrap ((pre.length : Int) + 1) = (((pre ++ [x]).length : Nat) : Int) := by
      rw [wrap_i64] <;> simp <;> omega
    have hpl2 := inv.perm.length_eq
    have hll := inv.len
    have av := (la.slw []).here.v
    have ac := (la.slw []).here.cells
    have bv := (lb.slw []).here.v
    have bc := (lb.slw []).here.cells
    have heq2 : ops = (pre ++ [x]) ++ rest := by rw [he]; simp
    by_cases hneg : x < 0
    · rcases c10 (σ := σ) (base := 0) la lb (by omega) (by omega) with ⟨a1, b1, hc, p1, la1, lb1⟩ | ⟨y, ys, a1, b1, hck, hit, p1, la1, lb1⟩
      · have hit : items = [] := by
          rcases hc with hc | hc
          · exact absurd inv.chk hc
          · exact hc
        have hl0 : l = [] := by
          have : l.length = 0 := by rw [← hpl2, hit]; rfl
          exact List.eq_nil_of_length_eq_zero this
        have hlz : ¬ ((l.length : Int) > 0) := by rw [hl0]; simp
        have av1 := (la1.slw []).here.v
        have ac1 := (la1.slw []).here.cells
        have bv1 := (lb1.slw []).here.v
        have bc1 := (lb1.slw []).here.cells
        obtain ⟨a', b', w', items', l', σ', g1, g2⟩ := ih (pre ++ [x]) a b w items l σ heq2 la lb hw (by rw [hpl]; exact inv.skip)
        refine ⟨a', b', w', items', l', σ', ?_, g2⟩
        rw [loopM_step (by rfl)]
        simp only [envS, loopOf, findLoop, regOf, Option.getD, envOf, List.range, List.range.loop, go_sem, Nat.reduceBEq, Nat.reduceEqDiff, Option.some.injEq, reduceCtorEq, Try.f3] at g1 ⊢
        simp only [go_sem, Nat.reduceBEq, Nat.reduceAdd, Nat.reduceSub, Nat.reduceEqDiff, Nat.reduceLeDiff, Nat.reduceMul, rgT, regionT, cfVars, cfKeep, allocs, isv?, stepO, okDst, wantedA, evalOp, evalV, evalS, storeAt, look, ofV, ofC, putA, clearA, lookV, lookVs, lookParts, adrOk, baseAt, baseOf, loadAt, partA, binA, unA, resOf, mkRes, envOf, List.range, List.range.loop, evalBuiltin, liveW, cfLive, cfOut, cfRes, regOf, startE, optN, mapGet, mapPut, orZero, keyOk, cellOk, ol, ov, oe, rv, rl, wv, wl, hlt, hget, hp0, hw1, av, ac, bv, bc, hneg, p1, av1, ac1, bv1, bc1, hlz, g1]
      · subst hit
        obtain ⟨x0, l0, hl0, hleast⟩ := inv.least
        have hlz : ((l.length : Int) > 0) = True := by rw [hl0]; simp
        have hle := c11 (σ := σ) (base := 0) (hr.slw σ).here (by rw [← hl0]; exact hw.slw.here) (by rw [hl0] at hll; simp at hll; omega) (by rw [← hl0]; exact inv.fit)
        rw [hleast] at hle
        have hwo := c12 (σ := σ) (base := 0) (x := y) hw.slw (by omega)
        have wov := wout_v (n := σ.length) (l := wo y l)
        have hwn : Wn (wst σ (wo y l)) (wout σ.length (wo y l)) (wo y l) := .wst
        have av1 := (la1.slw []).here.v
        have ac1 := (la1.slw []).here.cells
        have bv1 := (lb1.slw []).here.v
        have bc1 := (lb1.slw []).here.cells
        obtain ⟨a', b', w', items', l', σ', g1, g2⟩ := ih (pre ++ [x]) a1 b1 _ ys _ _ heq2 la1 lb1 hwn (by rw [hpl]; exact inv.pop)
        refine ⟨a', b', w', items', l', σ', ?_, g2⟩
        rw [loopM_step (by rfl)]
        simp only [envS, loopOf, findLoop, regOf, Option.getD, envOf, List.range, List.range.loop, go_sem, Nat.reduceBEq, Nat.reduceEqDiff, Option.some.injEq, reduceCtorEq, Try.f3] at g1 ⊢
        simp only [go_sem, Nat.reduceBEq, Nat.reduceAdd, Nat.reduceSub, Nat.reduceEqDiff, Nat.reduceLeDiff, Nat.reduceMul, rgT, regionT, cfVars, cfKeep, allocs, isv?, stepO, okDst, wantedA, evalOp, evalV, evalS, storeAt, look, ofV, ofC, putA, clearA, lookV, lookVs, lookParts, adrOk, baseAt, baseOf, loadAt, partA, binA, unA, resOf, mkRes, envOf, List.range, List.range.loop, evalBuiltin, liveW, cfLive, cfOut, cfRes, regOf, startE, optN, mapGet, mapPut, orZero, keyOk, cellOk, ol, ov, oe, rv, rl, wv, wl, hlt, hget, hp0, hw1, av, ac, bv, bc, hneg, p1, av1, ac1, bv1, bc1, hlz, hle, hwo, wov, g1]
    · have hft := fit_top (rank := rank) (x := x) (by omega)
      obtain ⟨a1, b1, p1, la1, lb1⟩ := c13 (σ := σ) (base := 0) (x := x) la lb (by omega) (by omega)
      have av1 := (la1.slw []).here.v
      have ac1 := (la1.slw []).here.cells
      have bv1 := (lb1.slw []).here.v
      have bc1 := (lb1.slw []).here.cells
      by_cases hbig : x ≥ topQ rank
      · have hf : fitB rank x = false := by rw [hft]; simp; omega
        have hp : (pushQ rank items x).2.2 = 4 := by
          unfold pushQ
          rw [if_pos inv.chk, if_neg (by rw [hf]; simp)]
        obtain ⟨a', b', w', items', l', σ', g1, g2⟩ := ih (pre ++ [x]) a b w items l σ heq2 la lb hw (by rw [hpl]; exact inv.skip)
        refine ⟨a', b', w', items', l', σ', ?_, g2⟩
        rw [loopM_step (by rfl)]
        simp only [envS, loopOf, findLoop, regOf, Option.getD, envOf, List.range, List.range.loop, go_sem, Nat.reduceBEq, Nat.reduceEqDiff, Option.some.injEq, reduceCtorEq, Try.f3] at g1 ⊢
        unfold topQ at hbig
        by_cases h0 : (rank.length : Int) > 0
        · rw [if_pos h0] at hbig
          simp only [go_sem, Nat.reduceBEq, Nat.reduceAdd, Nat.reduceSub, Nat.reduceEqDiff, Nat.reduceLeDiff, Nat.reduceMul, rgT, regionT, cfVars, cfKeep, allocs, isv?, stepO, okDst, wantedA, evalOp, evalV, evalS, storeAt, look, ofV, ofC, putA, clearA, lookV, lookVs, lookParts, adrOk, baseAt, baseOf, loadAt, partA, binA, unA, resOf, mkRes, envOf, List.range, List.range.loop, evalBuiltin, liveW, cfLive, cfOut, cfRes, regOf, startE, optN, mapGet, mapPut, orZero, keyOk, cellOk, ol, ov, oe, rv, rl, wv, wl, hlt, hget, hp0, hw1, av, ac, bv, bc, hneg, p1, av1, ac1, bv1, bc1, h0, hbig, hp, g1]
        · rw [if_neg h0] at hbig
          simp only [go_sem, Nat.reduceBEq, Nat.reduceAdd, Nat.reduceSub, Nat.reduceEqDiff, Nat.reduceLeDiff, Nat.reduceMul, rgT, regionT, cfVars, cfKeep, allocs, isv?, stepO, okDst, wantedA, evalOp, evalV, evalS, storeAt, look, ofV, ofC, putA, clearA, lookV, lookVs, lookParts, adrOk, baseAt, baseOf, loadAt, partA, binA, unA, resOf, mkRes, envOf, List.range, List.range.loop, evalBuiltin, liveW, cfLive, cfOut, cfRes, regOf, startE, optN, mapGet, mapPut, orZero, keyOk, cellOk, ol, ov, oe, rv, rl, wv, wl, hlt, hget, hp0, hw1, av, ac, bv, bc, hneg, p1, av1, ac1, bv1, bc1, h0, hbig, hp, g1]
      · have hf : fitB rank x = true := by rw [hft]; simp; omega
        have hp := push_of inv.chk hf (by omega)
        have hinv := inv.push (by omega) hf
        rw [hp] at p1 la1 lb1
        simp only [] at p1 la1 lb1
        have hwo := c12 (σ := σ) (base := 0) (x := x) hw.slw (by omega)
        have wol := wout_len (n := σ.length) (l := wo x l)
        have wov := wout_v (n := σ.length) (l := wo x l)
        have hwp := hw.past (m := wo x l)
        have hwol := wo_len (x := x) (l := l)
        unfold topQ at hbig
        by_cases hm : x ∈ l
        · rw [if_pos hm] at hinv
          have hne : ¬ (((wo x l).length : Int) = (l.length : Int)) := fun e => (hwol.2.1 (by omega)) hm
          obtain ⟨a', b', w', items', l', σ', g1, g2⟩ := ih (pre ++ [x]) a1 b1 w _ l (wst σ (wo x l)) heq2 la1 lb1 hwp (by rw [hpl]; exact hinv)
          refine ⟨a', b', w', items', l', σ', ?_, g2⟩
          rw [loopM_step (by rfl)]
          simp only [envS, loopOf, findLoop, regOf, Option.getD, envOf, List.range, List.range.loop, go_sem, Nat.reduceBEq, Nat.reduceEqDiff, Option.some.injEq, reduceCtorEq, Try.f3] at g1 ⊢
          by_cases h0 : (rank.length : Int) > 0
          · rw [if_pos h0] at hbig
            simp only [go_sem, Nat.reduceBEq, Nat.reduceAdd, Nat.reduceSub, Nat.reduceEqDiff, Nat.reduceLeDiff, Nat.reduceMul, rgT, regionT, cfVars, cfKeep, allocs, isv?, stepO, okDst, wantedA, evalOp, evalV, evalS, storeAt, look, ofV, ofC, putA, clearA, lookV, lookVs, lookParts, adrOk, baseAt, baseOf, loadAt, partA, binA, unA, resOf, mkRes, envOf, List.range, List.range.loop, evalBuiltin, liveW, cfLive, cfOut, cfRes, regOf, startE, optN, mapGet, mapPut, orZero, keyOk, cellOk, ol, ov, oe, rv, rl, wv, wl, hlt, hget, hp0, hw1, av, ac, bv, bc, hneg, p1, av1, ac1, bv1, bc1, h0, hbig, hwo, wol, wov, hne, g1]
          · rw [if_neg h0] at hbig
            simp only [go_sem, Nat.reduceBEq, Nat.reduceAdd, Nat.reduceSub, Nat.reduceEqDiff, Nat.reduceLeDiff, Nat.reduceMul, rgT, regionT, cfVars, cfKeep, allocs, isv?, stepO, okDst, wantedA, evalOp, evalV, evalS, storeAt, look, ofV, ofC, putA, clearA, lookV, lookVs, lookParts, adrOk, baseAt, baseOf, loadAt, partA, binA, unA, resOf, mkRes, envOf, List.range, List.range.loop, evalBuiltin, liveW, cfLive, cfOut, cfRes, regOf, startE, optN, mapGet, mapPut, orZero, keyOk, cellOk, ol, ov, oe, rv, rl, wv, wl, hlt, hget, hp0, hw1, av, ac, bv, bc, hneg, p1, av1, ac1, bv1, bc1, h0, hbig, hwo, wol, wov, hne, g1]
        · rw [if_neg hm] at hinv
          have heq : ((wo x l).length : Int) = (l.length : Int) := by have := hwol.2.2 hm; omega
          obtain ⟨w1, σ1, e1, hw2, w1v⟩ := hwp.append (x := x) (by omega)
          obtain ⟨a', b', w', items', l', σ', g1, g2⟩ := ih (pre ++ [x]) a1 b1 w1 _ (l ++ [x]) σ1 heq2 la1 lb1 hw2 (by rw [hpl]; exact hinv)
          refine ⟨a', b', w', items', l', σ', ?_, g2⟩
          rw [loopM_step (by rfl)]
          simp only [envS, loopOf, findLoop, regOf, Option.getD, envOf, List.range, List.range.loop, go_sem, Nat.reduceBEq, Nat.reduceEqDiff, Option.some.injEq, reduceCtorEq, Try.f3] at g1 ⊢
          by_cases h0 : (rank.length : Int) > 0
          · rw [if_pos h0] at hbig
            simp only [go_sem, Nat.reduceBEq, Nat.reduceAdd, Nat.reduceSub, Nat.reduceEqDiff, Nat.reduceLeDiff, Nat.reduceMul, rgT, regionT, cfVars, cfKeep, allocs, isv?, stepO, okDst, wantedA, evalOp, evalV, evalS, storeAt, look, ofV, ofC, putA, clearA, lookV, lookVs, lookParts, adrOk, baseAt, baseOf, loadAt, partA, binA, unA, resOf, mkRes, envOf, List.range, List.range.loop, evalBuiltin, liveW, cfLive, cfOut, cfRes, regOf, startE, optN, mapGet, mapPut, orZero, keyOk, cellOk, ol, ov, oe, rv, rl, wv, wl, hlt, hget, hp0, hw1, av, ac, bv, bc, hneg, p1, av1, ac1, bv1, bc1, h0, hbig, hwo, wol, wov, heq, e1, w1v, g1]
          · rw [if_neg h0] at hbig
            simp only [go_sem, Nat.reduceBEq, Nat.reduceAdd, Nat.reduceSub, Nat.reduceEqDiff, Nat.reduceLeDiff, Nat.reduceMul, rgT, regionT, cfVars, cfKeep, allocs, isv?, stepO, okDst, wantedA, evalOp, evalV, evalS, storeAt, look, ofV, ofC, putA, clearA, lookV, lookVs, lookParts, adrOk, baseAt, baseOf, loadAt, partA, binA, unA, resOf, mkRes, envOf, List.range, List.range.loop, evalBuiltin, liveW, cfLive, cfOut, cfRes, regOf, startE, optN, mapGet, mapPut, orZero, keyOk, cellOk, ol, ov, oe, rv, rl, wv, wl, hlt, hget, hp0, hw1, av, ac, bv, bc, hneg, p1, av1, ac1, bv1, bc1, h0, hbig, hwo, wol, wov, heq, e1, w1v, g1]

set_option maxRecDepth 100000 in
set_option maxHeartbeats 4000000 in
theorem l3 {r o : AV} {rank ops : List Int} (hr : Ls r rank) (ho : Ls o ops) (hmax : rank.length ≤ maxLen) : callL Try.prog cfW 3 [r, o] [] 0 = some (.bool true, []) := by
  have rl := (hr.slw []).here.len
  have rv := (hr.slw []).here.v
  have ol := (ho.slw []).here.len
  have ov := (ho.slw []).here.v
  rw [ints_len] at rl ol
  by_cases h1 : (rank.length : Int) > 8200
  · refine callL_pure (σ' := []) (v := .bool true) Try.func3 rfl (by kernel_rfl) rfl rfl (by simp) ?_ rfl
    unfold bodyT
    simp only [Try.f3, go_sem, Nat.reduceBEq, Nat.reduceAdd, Nat.reduceSub, Nat.reduceEqDiff, Nat.reduceLeDiff, Nat.reduceMul, rgT, regionT, cfVars, cfKeep, allocs, isv?, stepO, okDst, wantedA, evalOp, evalV, evalS, storeAt, look, ofV, ofC, putA, clearA, lookV, lookVs, lookParts, adrOk, baseAt, baseOf, loadAt, partA, binA, unA, resOf, mkRes, envOf, List.range, List.range.loop, evalBuiltin, liveW, cfLive, cfOut, cfRes, regOf, startE, optN, mapGet, mapPut, orZero, keyOk, cellOk, rl, rv, ol, ov, h1, c8]
  by_cases h2 : (ops.length : Int) > 200
  · refine callL_pure (σ' := []) (v := .bool true) Try.func3 rfl (by kernel_rfl) rfl rfl (by simp) ?_ rfl
    unfold bodyT
    simp only [Try.f3, go_sem, Nat.reduceBEq, Nat.reduceAdd, Nat.reduceSub, Nat.reduceEqDiff, Nat.reduceLeDiff, Nat.reduceMul, rgT, regionT, cfVars, cfKeep, allocs, isv?, stepO, okDst, wantedA, evalOp, evalV, evalS, storeAt, look, ofV, ofC, putA, clearA, lookV, lookVs, lookParts, adrOk, baseAt, baseOf, loadAt, partA, binA, unA, resOf, mkRes, envOf, List.range, List.range.loop, evalBuiltin, liveW, cfLive, cfOut, cfRes, regOf, startE, optN, mapGet, mapPut, orZero, keyOk, cellOk, rl, rv, ol, ov, h1, h2, c8]
  obtain ⟨a0, b0, p0, la0, lb0⟩ := c9 (σ := []) (base := 0) (hr.slw []) (by omega)
  have av := (la0.slw []).here.v
  have ac := (la0.slw []).here.cells
  have bv := (lb0.slw []).here.v
  have bc := (lb0.slw []).here.cells
  by_cases h3 : (rank.length : Int) > 8192
  · rw [if_pos h3] at la0 p0
    have al := (la0.slw []).here.len
    rw [ints_len, List.length_nil] at al
    refine callL_pure (σ' := []) (v := .bool true) Try.func3 rfl (by kernel_rfl) rfl rfl (by simp) ?_ rfl
    unfold bodyT
    simp only [Try.f3, go_sem, Nat.reduceBEq, Nat.reduceAdd, Nat.reduceSub, Nat.reduceEqDiff, Nat.reduceLeDiff, Nat.reduceMul, rgT, regionT, cfVars, cfKeep, allocs, isv?, stepO, okDst, wantedA, evalOp, evalV, evalS, storeAt, look, ofV, ofC, putA, clearA, lookV, lookVs, lookParts, adrOk, baseAt, baseOf, loadAt, partA, binA, unA, resOf, mkRes, envOf, List.range, List.range.loop, evalBuiltin, liveW, cfLive, cfOut, cfRes, regOf, startE, optN, mapGet, mapPut, orZero, keyOk, cellOk, rl, rv, ol, ov, h1, h2, h3, p0, av, ac, bv, bc, al, c8]
  · rw [if_neg h3] at la0 p0
    obtain ⟨a', b', w', items', l', σ', g1, g2, g3, g4, g5⟩ := l3_loop hr ho (by omega) (by omega) ops [] a0 b0 (.list true 0 []) [] [] [] rfl la0 lb0 .nil
      ⟨chkQ_iff.2 ⟨by omega, by simp, ⟨fun y hy => by simp at hy, List.nodup_nil, fun _ => List.Pairwise.nil⟩⟩, List.Perm.refl _, fun _ => rfl, by simp⟩
    have hpl := g5.perm.length_eq
    have hll := g5.len
    obtain ⟨d, hd, sd⟩ := c15 (base := 0) (g2.slw σ') (g3.slw σ') (by omega)
    have hlen := c14 (base := 0) (g2.slw σ') (g3.slw σ') (by omega)
    have hck := c16 (base := 0) (g2.slw σ').here (g3.slw σ').here (g2.slw σ').sl (g3.slw σ').sl (by omega)
    rw [if_pos g5.chk] at sd hlen
    rw [g5.chk] at hck
    have dl := sd.here.len
    have dv := sd.here.v
    have wl := g4.slw.here.len
    have wv := g4.slw.here.v
    rw [ints_len] at dl wl
    rw [hpl] at dl hlen
    have av1 := (g2.slw []).here.v
    have ac1 := (g2.slw []).here.cells
    have bv1 := (g3.slw []).here.v
    have bc1 := (g3.slw []).here.cells
    rw [show ((([] : List Int).length : Nat) : Int) = 0 from rfl] at g1
    simp only [envS, loopOf, findLoop, regOf, Option.getD, envOf, List.range, List.range.loop, go_sem, Nat.reduceBEq, Nat.reduceEqDiff, Option.some.injEq, reduceCtorEq, Try.f3] at g1
    refine callL_pure (σ' := σ') (v := .bool true) Try.func3 rfl (by kernel_rfl) rfl rfl (by simp) ?_ rfl
    unfold bodyT
    simp only [Try.f3, go_sem, Nat.reduceBEq, Nat.reduceAdd, Nat.reduceSub, Nat.reduceEqDiff, Nat.reduceLeDiff, Nat.reduceMul, rgT, regionT, cfVars, cfKeep, allocs, isv?, stepO, okDst, wantedA, evalOp, evalV, evalS, storeAt, look, ofV, ofC, putA, clearA, lookV, lookVs, lookParts, adrOk, baseAt, baseOf, loadAt, partA, binA, unA, resOf, mkRes, envOf, List.range, List.range.loop, evalBuiltin, liveW, cfLive, cfOut, cfRes, regOf, startE, optN, mapGet, mapPut, orZero, keyOk, cellOk, rl, rv, ol, ov, h1, h2, h3, p0, av, ac, bv, bc, g1, av1, ac1, bv1, bc1, hd, hlen, hck, dl, dv, wl, wv, c8]

end Go.Can
