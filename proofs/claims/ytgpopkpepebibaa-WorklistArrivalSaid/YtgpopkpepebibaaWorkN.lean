/- Contracts: awake; the laws Once and Tells. -/
import Derived.Test.YtgpopkpepebibaaWorkM
set_option linter.unusedSimpArgs false
set_option linter.unusedVariables false
namespace Go.Can
open Go Go.Proofs

theorem aw1 : pushQ [5, 1] [] 0 = ([5, 1], [0], 0) := by decide
theorem aw2 : pushQ [5, 1] [0] 1 = ([5, 1], [1, 0], 0) := by decide
theorem aw3 : chkQ [5, 1] [1, 0] = 0 := by decide

set_option maxRecDepth 100000 in
set_option maxHeartbeats 4000000 in
theorem c8 {σ : St} {base : Nat} : callL Try.prog cfW 8 [] σ base = some (.bool true, σ) := by
  obtain ⟨a0, b0, h0, la0, lb0⟩ := c9 (σ := []) (base := 0) (r := .list true 1 (ints [5, 1])) (rank := [5, 1]) .list (by decide)
  rw [if_neg (by decide)] at la0 h0
  obtain ⟨a1, b1, h1, la1, lb1⟩ := c13 (σ := []) (base := 0) (x := 0) la0 lb0 (by decide) (by decide)
  rw [aw1] at h1 la1 lb1
  obtain ⟨a2, b2, h2, la2, lb2⟩ := c13 (σ := []) (base := 0) (x := 1) la1 lb1 (by decide) (by decide)
  rw [aw2] at h2 la2 lb2
  rcases c10 (σ := []) (base := 0) la2 lb2 (by decide) (by decide) with ⟨a, b, hc, _⟩ | ⟨x, xs, a3, b3, hck, hit, h3, la3, lb3⟩
  · rcases hc with hc | hc
    · exact absurd aw3 hc
    · cases hc
  cases hit
  have h4 := c14 (σ := []) (base := 0) (la2.slw []) (lb2.slw []) (by decide)
  rw [if_pos aw3] at h4
  have v0 := (la0.slw []).here.v
  have w0 := (lb0.slw []).here.v
  have v1 := (la1.slw []).here.v
  have w1 := (lb1.slw []).here.v
  have v2 := (la2.slw []).here.v
  have w2 := (lb2.slw []).here.v
  have v3 := (la3.slw []).here.v
  have w3 := (lb3.slw []).here.v
  have ca0 := (la0.slw []).here.cells
  have cb0 := (lb0.slw []).here.cells
  have ca1 := (la1.slw []).here.cells
  have cb1 := (lb1.slw []).here.cells
  have ca2 := (la2.slw []).here.cells
  have cb2 := (lb2.slw []).here.cells
  have ca3 := (la3.slw []).here.cells
  have cb3 := (lb3.slw []).here.cells
  simp only [ints, List.map_cons, List.map_nil] at h0
  refine callL_nullary (σ' := []) (v := .bool true) Try.func8 rfl (by kernel_rfl) rfl rfl ?_ rfl
  unfold bodyT
  simp only [Try.f8, go_sem, Nat.reduceBEq, Nat.reduceAdd, Nat.reduceSub, Nat.reduceEqDiff, Nat.reduceLeDiff, Nat.reduceMul, rgT, regionT, cfVars, cfKeep, allocs, isv?, stepO, okDst, wantedA, evalOp, evalV, evalS, storeAt, look, ofV, ofC, putA, clearA, lookV, lookVs, lookParts, adrOk, baseAt, baseOf, loadAt, partA, binA, unA, resOf, mkRes, envOf, List.range, List.range.loop, evalBuiltin, liveW, cfLive, cfOut, cfRes, regOf, startE, optN, mapGet, mapPut, orZero, keyOk, cellOk, h0, h1, h2, h3, h4, v0, w0, v1, w1, v2, w2, v3, w3, ca0, cb0, ca1, cb1, ca2, cb2, ca3, cb3, ints, List.length_cons, List.length_nil]
  rfl

/-- What Push leaves. -/
def after (rank items : List Int) (x : Int) : List Int := if x ∈ items then items else insL rank items x

theorem after_mem {rank items : List Int} {x y : Int} : y ∈ after rank items x ↔ y = x ∨ y ∈ items := by
  unfold after
  split
  · rename_i h
    constructor
    · exact .inr
    · rintro (rfl | h2)
      · exact h
      · exact h2
  · exact insL_mem

theorem after_len {rank items : List Int} {x : Int} : (after rank items x).length ≤ items.length + 1 := by
  unfold after
  split
  · omega
  · rw [insL_len]; omega

theorem push_after {rank items : List Int} {x : Int} (h : (pushQ rank items x).2.2 = 0) (hl : items.length ≤ 300) : pushQ rank items x = (rank, after rank items x, 0) ∧ chkQ rank (after rank items x) = 0 ∧ fitB rank x = true ∧ chkQ rank items = 0 := by
  obtain ⟨h1, h2, _⟩ := push_good h
  exact ⟨push_of h1 h2 (by omega), push_chk h1 h2 (by omega), h2, h1⟩

set_option maxRecDepth 100000 in
set_option maxHeartbeats 4000000 in
theorem l7 {r it : AV} {rank items : List Int} {x : Int} (hr : Ls r rank) (hi : Ls it items) : callL Try.prog cfW 7 [.agg [r, it], .int .i64 x] [] 0 = some (.bool true, []) := by
  have rv := (hr.slw []).here.v
  have rc := (hr.slw []).here.cells
  have rl := (hr.slw []).here.len
  have iv := (hi.slw []).here.v
  have ic := (hi.slw []).here.cells
  have il := (hi.slw []).here.len
  rw [ints_len] at il rl
  refine callL_pure (σ' := []) (v := .bool true) Try.func7 rfl (by kernel_rfl) rfl rfl (by simp) ?_ rfl
  unfold bodyT
  by_cases h1 : (items.length : Int) > 300
  · simp only [Try.f7, go_sem, Nat.reduceBEq, Nat.reduceAdd, Nat.reduceSub, Nat.reduceEqDiff, Nat.reduceLeDiff, Nat.reduceMul, rgT, regionT, cfVars, cfKeep, allocs, isv?, stepO, okDst, wantedA, evalOp, evalV, evalS, storeAt, look, ofV, ofC, putA, clearA, lookV, lookVs, lookParts, adrOk, baseAt, baseOf, loadAt, partA, binA, unA, resOf, mkRes, envOf, List.range, List.range.loop, evalBuiltin, liveW, cfLive, cfOut, cfRes, regOf, startE, optN, mapGet, mapPut, orZero, keyOk, cellOk, rv, rc, rl, iv, ic, il, h1, c8]
  by_cases h2 : (rank.length : Int) > 8200
  · simp only [Try.f7, go_sem, Nat.reduceBEq, Nat.reduceAdd, Nat.reduceSub, Nat.reduceEqDiff, Nat.reduceLeDiff, Nat.reduceMul, rgT, regionT, cfVars, cfKeep, allocs, isv?, stepO, okDst, wantedA, evalOp, evalV, evalS, storeAt, look, ofV, ofC, putA, clearA, lookV, lookVs, lookParts, adrOk, baseAt, baseOf, loadAt, partA, binA, unA, resOf, mkRes, envOf, List.range, List.range.loop, evalBuiltin, liveW, cfLive, cfOut, cfRes, regOf, startE, optN, mapGet, mapPut, orZero, keyOk, cellOk, rv, rc, rl, iv, ic, il, h1, h2, c8]
  obtain ⟨a1, b1, p1, la1, lb1⟩ := c13 (σ := []) (base := 0) (x := x) hr hi (by omega) (by omega)
  by_cases h3 : (pushQ rank items x).2.2 = 0
  · obtain ⟨e1, k1, k2, k0⟩ := push_after h3 (by omega)
    rw [e1] at p1 la1 lb1
    have hx := (after_mem (rank := rank) (items := items) (x := x)).2 (.inl rfl)
    have hal := after_len (rank := rank) (items := items) (x := x)
    clear hi e1 h3
    generalize after rank items x = its at *
    obtain ⟨a2, b2, p2, la2, lb2⟩ := c13 (σ := []) (base := 0) (x := x) la1 lb1 (by simp only []; omega) (by simp only []; omega)
    simp only [] at p1 la1 lb1 p2 la2 lb2
    have e2 : pushQ rank its x = (rank, its, 0) := by rw [push_of k1 k2 (by omega), if_pos hx]
    rw [e2] at p2 la2 lb2
    simp only [] at p2 la2 lb2
    have hsame := c20 (base := 0) (la1.slw []) (lb1.slw []) (la2.slw []) (lb2.slw []) (by omega) (by omega)
    have hhas := c22 (base := 0) (x := x) (la1.slw []) (lb1.slw []) (by omega)
    obtain ⟨d1, hd1, sd1⟩ := c15 (base := 0) (la1.slw []) (lb1.slw []) (by omega)
    rw [if_pos k1] at sd1
    rcases c10 (σ := []) (base := 0) la1 lb1 (by omega) (by omega) with ⟨a, b, hc, _⟩ | ⟨y, ys, a3, b3, hck, hit, p3, la3, lb3⟩
    · rcases hc with hc | hc
      · exact absurd k1 hc
      · rw [hc] at hx; cases hx
    subst hit
    obtain ⟨g1, g2, g3⟩ := chkQ_iff.1 k1
    obtain ⟨g4, g5⟩ := g3.tail
    simp only [List.length_cons] at g2
    have k3 : chkQ rank ys = 0 := chkQ_iff.2 ⟨g1, by omega, g4⟩
    have hhas2 := c22 (base := 0) (x := y) (la3.slw []) (lb3.slw []) (by omega)
    obtain ⟨d2, hd2, sd2⟩ := c15 (base := 0) (la3.slw []) (lb3.slw []) (by omega)
    rw [if_pos k3] at sd2
    have dl := sd1.here.len
    rw [ints_len] at dl
    obtain ⟨d3, hd3, sd3, _⟩ := sd1.here.slice sd1.nl (l := 1) (k := (ints (y :: ys)).length) (lo := some 1) (hi := none) (by simp [ints]) (Nat.le_refl _) rfl rfl
    have e3 : ((ints (y :: ys)).drop 1).take ((ints (y :: ys)).length - 1) = ints ys := by
      simp [ints]
      exact List.take_of_length_le (by simp)
    rw [e3] at sd3
    have heq := c17 (base := 0) sd2.here sd3 (by omega)
    have v1 := (la1.slw []).here.v
    have w1 := (lb1.slw []).here.v
    have v2 := (la2.slw []).here.v
    have w2 := (lb2.slw []).here.v
    have v3 := (la3.slw []).here.v
    have w3 := (lb3.slw []).here.v
    have ca1 := (la1.slw []).here.cells
    have cb1 := (lb1.slw []).here.cells
    have ca2 := (la2.slw []).here.cells
    have cb2 := (lb2.slw []).here.cells
    have ca3 := (la3.slw []).here.cells
    have cb3 := (lb3.slw []).here.cells
    have vd1 := sd1.here.v
    have ed1 := sd1.here.el
    have vd2 := sd2.here.v
    have vd3 := sd3.v
    have hz : ¬ (((y :: ys).length : Nat) : Int) = 0 := by rw [List.length_cons]; omega
    have hlt : ((0 : Int) < (((y :: ys).length : Nat) : Int)) = True := by rw [List.length_cons]; simp
    have hget : (ints (y :: ys))[(0 : Int).toNat]? = some (.int .i64 y) := rfl
    have h00 : ((0 : Int) ≤ 0) = True := by simp
    generalize (y :: ys).length = n at *
    simp only [Try.f7, go_sem, Nat.reduceBEq, Nat.reduceAdd, Nat.reduceSub, Nat.reduceEqDiff, Nat.reduceLeDiff, Nat.reduceMul, rgT, regionT, cfVars, cfKeep, allocs, isv?, stepO, okDst, wantedA, evalOp, evalV, evalS, storeAt, look, ofV, ofC, putA, clearA, lookV, lookVs, lookParts, adrOk, baseAt, baseOf, loadAt, partA, binA, unA, resOf, mkRes, envOf, List.range, List.range.loop, evalBuiltin, liveW, cfLive, cfOut, cfRes, regOf, startE, optN, mapGet, mapPut, orZero, keyOk, cellOk, rv, rc, rl, iv, ic, il, h1, h2, p1, p2, p3, hsame, hhas, hd1, hd2, hhas2, hd3, heq, v1, v2, v3, w1, w2, w3, ca1, cb1, ca2, cb2, ca3, cb3, vd1, ed1, vd2, vd3, dl, hz, hlt, hget, h00, k1, k3, hx, g5, c8]
  · have v1 := (la1.slw []).here.v
    have w1 := (lb1.slw []).here.v
    have ca1 := (la1.slw []).here.cells
    have cb1 := (lb1.slw []).here.cells
    simp only [Try.f7, go_sem, Nat.reduceBEq, Nat.reduceAdd, Nat.reduceSub, Nat.reduceEqDiff, Nat.reduceLeDiff, Nat.reduceMul, rgT, regionT, cfVars, cfKeep, allocs, isv?, stepO, okDst, wantedA, evalOp, evalV, evalS, storeAt, look, ofV, ofC, putA, clearA, lookV, lookVs, lookParts, adrOk, baseAt, baseOf, loadAt, partA, binA, unA, resOf, mkRes, envOf, List.range, List.range.loop, evalBuiltin, liveW, cfLive, cfOut, cfRes, regOf, startE, optN, mapGet, mapPut, orZero, keyOk, cellOk, rv, rc, rl, iv, ic, il, h1, h2, p1, v1, w1, ca1, cb1, h3, c8]

theorem wout_len {n : Nat} {l : List Int} : lenS (wout n l) = some l.length := by cases l <;> rfl
theorem wout_v {n : Nat} {l : List Int} : (Slot.val (wout n l)).v = some (wout n l) := by cases l <;> rfl

set_option maxRecDepth 100000 in
set_option maxHeartbeats 8000000 in
theorem l6 {r it : AV} {rank items : List Int} {x : Int} (hr : Ls r rank) (hi : Ls it items) : callL Try.prog cfW 6 [.agg [r, it], .int .i64 x] [] 0 = some (.bool true, []) := by
  have rv := (hr.slw []).here.v
  have rc := (hr.slw []).here.cells
  have rl := (hr.slw []).here.len
  have iv := (hi.slw []).here.v
  have ic := (hi.slw []).here.cells
  have il := (hi.slw []).here.len
  rw [ints_len] at il rl
  by_cases h1 : (items.length : Int) > 300
  · refine callL_pure (σ' := []) (v := .bool true) Try.func6 rfl (by kernel_rfl) rfl rfl (by simp) ?_ rfl
    unfold bodyT
    simp only [Try.f6, go_sem, Nat.reduceBEq, Nat.reduceAdd, Nat.reduceSub, Nat.reduceEqDiff, Nat.reduceLeDiff, Nat.reduceMul, rgT, regionT, cfVars, cfKeep, allocs, isv?, stepO, okDst, wantedA, evalOp, evalV, evalS, storeAt, look, ofV, ofC, putA, clearA, lookV, lookVs, lookParts, adrOk, baseAt, baseOf, loadAt, partA, binA, unA, resOf, mkRes, envOf, List.range, List.range.loop, evalBuiltin, liveW, cfLive, cfOut, cfRes, regOf, startE, optN, mapGet, mapPut, orZero, keyOk, cellOk, rv, rc, rl, iv, ic, il, h1, c8]
  by_cases h2 : (rank.length : Int) > 8200
  · refine callL_pure (σ' := []) (v := .bool true) Try.func6 rfl (by kernel_rfl) rfl rfl (by simp) ?_ rfl
    unfold bodyT
    simp only [Try.f6, go_sem, Nat.reduceBEq, Nat.reduceAdd, Nat.reduceSub, Nat.reduceEqDiff, Nat.reduceLeDiff, Nat.reduceMul, rgT, regionT, cfVars, cfKeep, allocs, isv?, stepO, okDst, wantedA, evalOp, evalV, evalS, storeAt, look, ofV, ofC, putA, clearA, lookV, lookVs, lookParts, adrOk, baseAt, baseOf, loadAt, partA, binA, unA, resOf, mkRes, envOf, List.range, List.range.loop, evalBuiltin, liveW, cfLive, cfOut, cfRes, regOf, startE, optN, mapGet, mapPut, orZero, keyOk, cellOk, rv, rc, rl, iv, ic, il, h1, h2, c8]
  have hk1 := c16 (base := 0) (hr.slw []).here (hi.slw []).here (hr.slw []).sl (hi.slw []).sl (by omega)
  have hk2 := c18 (base := 0) (hr.slw []).here (hi.slw []).here (hi.slw []).nl (by omega)
  obtain ⟨a1, b1, p1, la1, lb1⟩ := c13 (σ := []) (base := 0) (x := x) hr hi (by omega) (by omega)
  obtain ⟨a2, b2, p2, la2, lb2⟩ := c19 (σ := []) (base := 0) (x := x) hr hi (by omega)
  have q1 : (pushQ rank items x).1.length < 2^40 := by
    unfold pushQ
    repeat' split
    all_goals simp; try omega
  have q2 : (pushQ rank items x).2.1.length < 2^40 := by
    unfold pushQ
    repeat' split
    all_goals simp [insL_len]; try omega
  have hs1 := c20 (base := 0) (la1.slw []) (lb1.slw []) (la2.slw []) (lb2.slw []) q1 q2
  have v1 := (la1.slw []).here.v
  have w1 := (lb1.slw []).here.v
  have v2 := (la2.slw []).here.v
  have w2 := (lb2.slw []).here.v
  have ca1 := (la1.slw []).here.cells
  have cb1 := (lb1.slw []).here.cells
  have ca2 := (la2.slw []).here.cells
  have cb2 := (lb2.slw []).here.cells
  have pops : ∃ (y : Int) (ok : Bool) (a3 b3 a4 b4 : AV) (l3 l4 : List Int), callL Try.prog cfW 10 [.agg [r, it]] [] 0 = some (.tup [.int .i64 y, .agg [a3, b3], .bool ok], []) ∧
      callL Try.prog cfW 21 [.agg [r, it]] [] 0 = some (.tup [.int .i64 y, .agg [a4, b4], .bool ok], []) ∧ Ls a3 l3 ∧ Ls b3 l4 ∧ Ls a4 l3 ∧ Ls b4 l4 ∧ l3.length < 2^40 ∧ l4.length < 2^40 := by
    rcases c10 (σ := []) (base := 0) hr hi (by omega) (by omega) with ⟨a, b, hc, h3, h4, h5⟩ | ⟨y, ys, a3, b3, hck, hit, h3, h4, h5⟩
    · rcases c21 (σ := []) (base := 0) hr hi (by omega) with ⟨a', b', hc', h3', h4', h5'⟩ | ⟨y', ys', b3', hck', hit', h3', h5'⟩
      · exact ⟨0, false, a, b, a', b', [], [], h3, h3', h4, h5, h4', h5', by simp, by simp⟩
      · rcases hc with hc | hc
        · exact absurd hck' hc
        · rw [hc] at hit'; cases hit'
    · rcases c21 (σ := []) (base := 0) hr hi (by omega) with ⟨a', b', hc', h3', h4', h5'⟩ | ⟨y', ys', b3', hck', hit', h3', h5'⟩
      · rcases hc' with hc | hc
        · exact absurd hck hc
        · rw [hc] at hit; cases hit
      · rw [hit] at hit'
        cases hit'
        exact ⟨y, true, a3, b3, r, b3', rank, ys, h3, h3', h4, h5, hr, h5', by omega, by rw [hit] at h1; simp at h1; omega⟩
  obtain ⟨y, ok, a3, b3, a4, b4, l3, l4, p3, p4, la3, lb3, la4, lb4, z3, z4⟩ := pops
  have hs2 := c20 (base := 0) (la3.slw []) (lb3.slw []) (la4.slw []) (lb4.slw []) z3 z4
  have v3 := (la3.slw []).here.v
  have w3 := (lb3.slw []).here.v
  have v4 := (la4.slw []).here.v
  have w4 := (lb4.slw []).here.v
  have ca3 := (la3.slw []).here.cells
  have cb3 := (lb3.slw []).here.cells
  have ca4 := (la4.slw []).here.cells
  have cb4 := (lb4.slw []).here.cells
  by_cases h3 : chkQ rank items = 0
  · have hwo := c12 (σ := []) (base := 0) (x := x) (hi.slw []) (by omega)
    generalize hS : wst [] (wo x items) = S at *
    have hlen := c14 (base := 0) (hr.slw S) (hi.slw S) (by omega)
    obtain ⟨d, hd, sd⟩ := c15 (base := 0) (hr.slw S) (hi.slw S) (by omega)
    have hhas := c22 (base := 0) (x := x) (hr.slw S) (hi.slw S) (by omega)
    rw [if_pos h3] at sd hlen
    have heq := c17 (base := 0) sd.here (hi.slw S).here (by omega)
    have vd := sd.here.v
    have wl := wout_len (n := 0) (l := wo x items)
    have wv := wout_v (n := 0) (l := wo x items)
    have hin : decide ((((wo x items).length : Nat) : Int) < ((items.length : Nat) : Int)) = decide (x ∈ items) := by
      have := wo_len (x := x) (l := items)
      by_cases hm : x ∈ items
      · have h4 : (wo x items).length ≠ items.length := fun e => (this.2.1 e) hm
        simp [hm]; omega
      · have h4 := this.2.2 hm
        simp [hm]; omega
    refine callL_pure (σ' := S) (v := .bool true) Try.func6 rfl (by kernel_rfl) rfl rfl (by simp) ?_ rfl
    unfold bodyT
    cases ok <;> simp only [Try.f6, go_sem, Nat.reduceBEq, Nat.reduceAdd, Nat.reduceSub, Nat.reduceEqDiff, Nat.reduceLeDiff, Nat.reduceMul, rgT, regionT, cfVars, cfKeep, allocs, isv?, stepO, okDst, wantedA, evalOp, evalV, evalS, storeAt, look, ofV, ofC, putA, clearA, lookV, lookVs, lookParts, adrOk, baseAt, baseOf, loadAt, partA, binA, unA, resOf, mkRes, envOf, List.range, List.range.loop, evalBuiltin, liveW, cfLive, cfOut, cfRes, regOf, startE, optN, mapGet, mapPut, orZero, keyOk, cellOk, beq_self_eq_true, rv, rc, rl, iv, ic, il, h1, h2, h3, hk1, hk2, p1, p2, p3, p4, hs1, hs2, v1, v2, v3, v4, w1, w2, w3, w4, ca1, ca2, ca3, ca4, cb1, cb2, cb3, cb4, hwo, hlen, hd, hhas, heq, vd, wl, wv, hin, c8]
  · have hlen := c14 (base := 0) (hr.slw []) (hi.slw []) (by omega)
    obtain ⟨d, hd, sd⟩ := c15 (base := 0) (hr.slw []) (hi.slw []) (by omega)
    have hhas := c22 (base := 0) (x := x) (hr.slw []) (hi.slw []) (by omega)
    rw [if_neg h3] at sd hlen
    have vd := sd.here.v
    have dl := sd.here.len
    rw [ints_len, List.length_nil] at dl
    refine callL_pure (σ' := []) (v := .bool true) Try.func6 rfl (by kernel_rfl) rfl rfl (by simp) ?_ rfl
    unfold bodyT
    cases ok <;> simp only [Try.f6, go_sem, Nat.reduceBEq, Nat.reduceAdd, Nat.reduceSub, Nat.reduceEqDiff, Nat.reduceLeDiff, Nat.reduceMul, rgT, regionT, cfVars, cfKeep, allocs, isv?, stepO, okDst, wantedA, evalOp, evalV, evalS, storeAt, look, ofV, ofC, putA, clearA, lookV, lookVs, lookParts, adrOk, baseAt, baseOf, loadAt, partA, binA, unA, resOf, mkRes, envOf, List.range, List.range.loop, evalBuiltin, liveW, cfLive, cfOut, cfRes, regOf, startE, optN, mapGet, mapPut, orZero, keyOk, cellOk, beq_self_eq_true, rv, rc, rl, iv, ic, il, h1, h2, h3, hk1, hk2, p1, p2, p3, p4, hs1, hs2, v1, v2, v3, v4, w1, w2, w3, w4, ca1, ca2, ca3, ca4, cb1, cb2, cb3, cb4, hlen, hd, hhas, vd, dl, c8]

end Go.Can
