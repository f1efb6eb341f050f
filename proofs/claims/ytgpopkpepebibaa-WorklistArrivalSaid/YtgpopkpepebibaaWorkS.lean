/- The law Arrival. -/
import Derived.Test.YtgpopkpepebibaaWorkR
set_option linter.unusedSimpArgs false
set_option linter.unusedVariables false
namespace Go.Can
open Go Go.Proofs

/-- A list that a law keeps: nil, or a row of its own. -/
inductive Wn (σ : St) : AV → List Int → Prop
  | nil : Wn σ (.list true 0 []) []
  | row (id : Nat) (l : List Int) (h : σ[id]? = some (.row 1 (ints l))) (hne : l ≠ []) : Wn σ (.row 1 id l.length 0 l.length false) l

theorem Wn.more {σ : St} {a : AV} {l : List Int} (h : Wn σ a l) (m : St) : Wn (σ ++ m) a l := by
  cases h with
  | nil => exact .nil
  | row id l h hne =>
    refine .row id l ?_ hne
    rw [List.getElem?_append_left (List.getElem?_eq_some_iff.1 h).1]
    exact h

theorem Wn.slw {σ : St} {a : AV} {l : List Int} (h : Wn σ a l) : Slw σ a l := by
  refine ⟨fun m => ?_, ?_⟩
  · cases h.more m with
    | nil => exact Sl.nil _
    | row id l h2 hne =>
      have := Sl.row (sz := 1) (id := id) (xs := ints l) h2 false
      rw [ints_len] at this
      exact this
  · cases h with
    | nil => exact NL.list
    | row id l h hne => intro sz id' gen off len h; cases h

theorem Wn.wst {σ : St} {l : List Int} : Wn (wst σ l) (wout σ.length l) l := by
  cases l with
  | nil => exact .nil
  | cons x xs => exact .row σ.length (x :: xs) (by simp [Go.Can.wst]) (by simp)

theorem wst_more {σ : St} {l : List Int} : ∃ m, wst σ l = σ ++ m := by
  cases l with
  | nil => exact ⟨[], by simp [wst]⟩
  | cons x xs => exact ⟨_, rfl⟩

theorem Wn.past {σ : St} {a : AV} {l m : List Int} (h : Wn σ a l) : Wn (Go.Can.wst σ m) a l := by
  obtain ⟨k, e⟩ := wst_more (σ := σ) (l := m)
  rw [e]
  exact h.more k

theorem Wn.append {σ : St} {a : AV} {l : List Int} {x : Int} (h : Wn σ a l) (hl : l.length < 2^40) : ∃ a' σ', appendTo 0 σ 1 8 a [.int .i64 x] = some (a', σ') ∧ Wn σ' a' (l ++ [x]) ∧ (Slot.val a').v = some a' := by
  cases h with
  | nil =>
    exact ⟨_, _, append_fresh (by simp) (by omega), .row σ.length [x] (by simp [ints]) (by simp), rfl⟩
  | row id l h hne =>
    have hap := append_row (base := 0) (bytes := 8) (ys := [AV.int .i64 x]) h (Nat.zero_le _) (by rw [ints_len]; simp; omega) (by omega)
    have hlt := (List.getElem?_eq_some_iff.1 h).1
    rw [ints_len] at hap
    refine ⟨_, _, hap, ?_, rfl⟩
    have := Wn.row (σ := σ.set id (.row 1 (ints l ++ [AV.int .i64 x]))) id (l ++ [x]) (by rw [List.getElem?_set_self hlt]; simp [ints]) (by simp)
    simpa using this

theorem fit_nil {z : Int} (h0 : 0 ≤ z) (h1 : z < 65536) : fitB [] z = true := by
  unfold fitB
  simp [h0, h1]

theorem after_nil {items : List Int} {z : Int} : (if z ∈ items then items else insL [] items z) = if z ∈ items then items else items ++ [z] := by
  split
  · rfl
  · exact insL_plain (by simp)

set_option maxRecDepth 100000 in
set_option maxHeartbeats 4000000 in
theorem l4_loop {v : AV} {zs : List Int} (hv : ∀ σ, Sl σ 1 v (zs.map (AV.int .u16))) (hn : zs.length ≤ 200) (hz : ∀ z ∈ zs, 0 ≤ z ∧ z < 65536) :
    ∀ (rest pre : List Int) (a b w : AV) (items : List Int) (σ : St), zs = pre ++ rest → Ls a [] → Ls b items → Wn σ w items → chkQ [] items = 0 → items.length ≤ pre.length →
      ∃ a' b' w' items' σ', loopM Try.prog cfW 4 0 (loopOf Try.f4 6) (envS 65 [(0, .val v), (3, .var [a, b]), (4, .val (.int .i64 0)), (5, .val w), (6, .val (.int .i64 pre.length))], σ) =
        some (.exit 0, envS 65 [(3, .var [a', b']), (4, .val (.int .i64 0)), (5, .val w')], σ') ∧ Ls a' [] ∧ Ls b' items' ∧ Wn σ' w' items' ∧ chkQ [] items' = 0 ∧ items'.length ≤ zs.length := by
  intro rest
  induction rest with
  | nil =>
    intro pre a b w items σ he la lb hw hc hl
    have vl := (hv σ).len
    have vv := (hv σ).v
    have wv := hw.slw.here.v
    rw [List.length_map] at vl
    have hlt : ¬ ((pre.length : Int) < zs.length) := by rw [he]; simp
    refine ⟨a, b, w, items, σ, ?_, la, lb, hw, hc, by rw [he]; simp; omega⟩
    rw [loopM_step (by rfl)]
    simp only [envS, loopOf, findLoop, regOf, Option.getD, envOf, List.range, List.range.loop, go_sem, Nat.reduceBEq, Nat.reduceEqDiff, Option.some.injEq, reduceCtorEq, Try.f4]
    simp only [go_sem, Nat.reduceBEq, Nat.reduceAdd, Nat.reduceSub, Nat.reduceEqDiff, Nat.reduceLeDiff, Nat.reduceMul, rgT, regionT, cfVars, cfKeep, allocs, isv?, stepO, okDst, wantedA, evalOp, evalV, evalS, storeAt, look, ofV, ofC, putA, clearA, lookV, lookVs, lookParts, adrOk, baseAt, baseOf, loadAt, partA, binA, unA, resOf, mkRes, envOf, List.range, List.range.loop, evalBuiltin, liveW, cfLive, cfOut, cfRes, regOf, startE, optN, mapGet, mapPut, orZero, keyOk, cellOk, vl, vv, wv, hlt]
  | cons z rest ih =>
    intro pre a b w items σ he la lb hw hc hl
    have vl := (hv σ).len
    have vv := (hv σ).v
    have ve := (hv σ).el
    have wv := hw.slw.here.v
    have wl := hw.slw.here.len
    rw [List.length_map] at vl
    rw [ints_len] at wl
    have hzl : zs.length = pre.length + (rest.length + 1) := by rw [he]; simp
    obtain ⟨z0, z1⟩ := hz z (by rw [he]; simp)
    have hlt : ((pre.length : Int) < zs.length) = True := by simp; omega
    have hget : (zs.map (AV.int .u16))[pre.length]? = some (.int .u16 z) := by rw [he]; simp
    have hp0 : ((0 : Int) ≤ (pre.length : Int)) = True := by simp
    have hw1 : IntKind.i64.wrap ((pre.length : Int) + 1) = (((pre ++ [z]).length : Nat) : Int) := by
      rw [wrap_i64] <;> simp <;> omega
    have hwz : IntKind.i64.wrap z = z := by rw [wrap_i64] <;> omega
    obtain ⟨a1, b1, p1, la1, lb1⟩ := c13 (σ := σ) (base := 0) (x := z) la lb (by omega) (by simp)
    have hp := push_of hc (fit_nil z0 z1) (by omega)
    have hc1 := push_chk hc (fit_nil z0 z1) (by omega)
    rw [after_nil] at hp hc1
    rw [hp] at p1 la1 lb1
    simp only [] at p1 la1 lb1
    have hwo := fun b => c12 (σ := σ) (base := b) (x := z) hw.slw (by omega)
    have wol := wout_len (n := σ.length) (l := wo z items)
    have wov := wout_v (n := σ.length) (l := wo z items)
    have hwp := hw.past (m := wo z items)
    have ve2 := (hv (wst σ (wo z items))).el
    have av := (la.slw []).here.v
    have ac := (la.slw []).here.cells
    have bv := (lb.slw []).here.v
    have bc := (lb.slw []).here.cells
    have av1 := (la1.slw []).here.v
    have ac1 := (la1.slw []).here.cells
    have bv1 := (lb1.slw []).here.v
    have bc1 := (lb1.slw []).here.cells
    have hwol := wo_len (x := z) (l := items)
    by_cases hm : z ∈ items
    · rw [if_pos hm] at lb1 hc1
      have hne : ¬ (((wo z items).length : Int) = (items.length : Int)) := fun e => (hwol.2.1 (by omega)) hm
      obtain ⟨a', b', w', items', σ', g1, g2⟩ := ih (pre ++ [z]) a1 b1 w items (wst σ (wo z items)) (by rw [he]; simp) la1 lb1 hwp hc1 (by simp; omega)
      refine ⟨a', b', w', items', σ', ?_, g2⟩
      rw [loopM_step (by rfl)]
      simp only [envS, loopOf, findLoop, regOf, Option.getD, envOf, List.range, List.range.loop, go_sem, Nat.reduceBEq, Nat.reduceEqDiff, Option.some.injEq, reduceCtorEq, Try.f4] at g1 ⊢
      simp only [go_sem, Nat.reduceBEq, Nat.reduceAdd, Nat.reduceSub, Nat.reduceEqDiff, Nat.reduceLeDiff, Nat.reduceMul, rgT, regionT, cfVars, cfKeep, allocs, isv?, stepO, okDst, wantedA, evalOp, evalV, evalS, storeAt, look, ofV, ofC, putA, clearA, lookV, lookVs, lookParts, adrOk, baseAt, baseOf, loadAt, partA, binA, unA, resOf, mkRes, envOf, List.range, List.range.loop, evalBuiltin, liveW, cfLive, cfOut, cfRes, regOf, startE, optN, mapGet, mapPut, orZero, keyOk, cellOk, vl, vv, ve, ve2, wv, wl, hlt, hp0, hget, hw1, hwz, p1, hwo, wol, wov, av, ac, bv, bc, av1, ac1, bv1, bc1, hne, g1]
    · rw [if_neg hm] at lb1 hc1
      have heq : ((wo z items).length : Int) = (items.length : Int) := by have := hwol.2.2 hm; omega
      obtain ⟨w1, σ1, e1, hw2, w1v⟩ := hwp.append (x := z) (by omega)
      obtain ⟨a', b', w', items', σ', g1, g2⟩ := ih (pre ++ [z]) a1 b1 w1 (items ++ [z]) σ1 (by rw [he]; simp) la1 lb1 hw2 hc1 (by simp; omega)
      refine ⟨a', b', w', items', σ', ?_, g2⟩
      rw [loopM_step (by rfl)]
      simp only [envS, loopOf, findLoop, regOf, Option.getD, envOf, List.range, List.range.loop, go_sem, Nat.reduceBEq, Nat.reduceEqDiff, Option.some.injEq, reduceCtorEq, Try.f4] at g1 ⊢
      simp only [go_sem, Nat.reduceBEq, Nat.reduceAdd, Nat.reduceSub, Nat.reduceEqDiff, Nat.reduceLeDiff, Nat.reduceMul, rgT, regionT, cfVars, cfKeep, allocs, isv?, stepO, okDst, wantedA, evalOp, evalV, evalS, storeAt, look, ofV, ofC, putA, clearA, lookV, lookVs, lookParts, adrOk, baseAt, baseOf, loadAt, partA, binA, unA, resOf, mkRes, envOf, List.range, List.range.loop, evalBuiltin, liveW, cfLive, cfOut, cfRes, regOf, startE, optN, mapGet, mapPut, orZero, keyOk, cellOk, vl, vv, ve, ve2, wv, wl, hlt, hp0, hget, hw1, hwz, p1, hwo, wol, wov, av, ac, bv, bc, av1, ac1, bv1, bc1, heq, e1, w1v, g1]

set_option maxRecDepth 100000 in
set_option maxHeartbeats 4000000 in
theorem l4 {v : AV} {zs : List Int} (hv : ∀ σ, Sl σ 1 v (zs.map (AV.int .u16))) (hz : ∀ z ∈ zs, 0 ≤ z ∧ z < 65536) : callL Try.prog cfW 4 [v] [] 0 = some (.bool true, []) := by
  have vl := (hv []).len
  have vv := (hv []).v
  rw [List.length_map] at vl
  by_cases h1 : (zs.length : Int) > 200
  · refine callL_pure (σ' := []) (v := .bool true) Try.func4 rfl (by kernel_rfl) rfl rfl (by simp) ?_ rfl
    unfold bodyT
    simp only [Try.f4, go_sem, Nat.reduceBEq, Nat.reduceAdd, Nat.reduceSub, Nat.reduceEqDiff, Nat.reduceLeDiff, Nat.reduceMul, rgT, regionT, cfVars, cfKeep, allocs, isv?, stepO, okDst, wantedA, evalOp, evalV, evalS, storeAt, look, ofV, ofC, putA, clearA, lookV, lookVs, lookParts, adrOk, baseAt, baseOf, loadAt, partA, binA, unA, resOf, mkRes, envOf, List.range, List.range.loop, evalBuiltin, liveW, cfLive, cfOut, cfRes, regOf, startE, optN, mapGet, mapPut, orZero, keyOk, cellOk, vl, vv, h1, c8]
  · obtain ⟨a0, b0, p0, la0, lb0⟩ := c9 (σ := []) (base := 0) (r := .list true 0 []) (rank := []) .nil (by simp)
    rw [if_neg (by simp)] at p0 la0
    obtain ⟨a', b', w', items', σ', g1, g2, g3, g4, g5, g6⟩ := l4_loop hv (by omega) hz zs [] a0 b0 (.list true 0 []) [] [] rfl la0 lb0 .nil (by decide) (Nat.le_refl _)
    obtain ⟨d, hd, sd⟩ := c15 (base := 0) (g2.slw σ') (g3.slw σ') (by omega)
    rw [if_pos g5] at sd
    have heq := c17 (base := 0) sd.here g4.slw.here (by omega)
    have av := (la0.slw []).here.v
    have ac := (la0.slw []).here.cells
    have bv := (lb0.slw []).here.v
    have bc := (lb0.slw []).here.cells
    have av1 := (g2.slw []).here.v
    have ac1 := (g2.slw []).here.cells
    have bv1 := (g3.slw []).here.v
    have bc1 := (g3.slw []).here.cells
    have wv := g4.slw.here.v
    have dv := sd.here.v
    rw [show ((([] : List Int).length : Nat) : Int) = 0 from rfl] at g1
    simp only [envS, loopOf, findLoop, regOf, Option.getD, envOf, List.range, List.range.loop, go_sem, Nat.reduceBEq, Nat.reduceEqDiff, Option.some.injEq, reduceCtorEq, Try.f4] at g1
    refine callL_pure (σ' := σ') (v := .bool true) Try.func4 rfl (by kernel_rfl) rfl rfl (by simp) ?_ rfl
    unfold bodyT
    simp only [Try.f4, go_sem, Nat.reduceBEq, Nat.reduceAdd, Nat.reduceSub, Nat.reduceEqDiff, Nat.reduceLeDiff, Nat.reduceMul, rgT, regionT, cfVars, cfKeep, allocs, isv?, stepO, okDst, wantedA, evalOp, evalV, evalS, storeAt, look, ofV, ofC, putA, clearA, lookV, lookVs, lookParts, adrOk, baseAt, baseOf, loadAt, partA, binA, unA, resOf, mkRes, envOf, List.range, List.range.loop, evalBuiltin, liveW, cfLive, cfOut, cfRes, regOf, startE, optN, mapGet, mapPut, orZero, keyOk, cellOk, vl, vv, h1, p0, av, ac, bv, bc, g1, av1, ac1, bv1, bc1, wv, hd, dv, heq, c8]

end Go.Can
