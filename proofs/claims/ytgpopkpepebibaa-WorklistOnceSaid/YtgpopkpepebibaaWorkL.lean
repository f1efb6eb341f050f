/- Contracts: the program's Push. -/
import Derived.Test.YtgpopkpepebibaaWorkK
set_option linter.unusedSimpArgs false
set_option linter.unusedVariables false
namespace Go.Can
open Go Go.Proofs

/-- Where 'x' comes to stand, looked for from behind. -/
def posE (rank items : List Int) (x : Int) : Nat → Nat
  | 0 => 0
  | k + 1 => if (rank.length : Int) > 0 ∧ bef rank x (items.getD k 0) = true then posE rank items x k else k + 1

theorem posE_le {rank items : List Int} {x : Int} : ∀ {k : Nat}, posE rank items x k ≤ k
  | 0 => Nat.le_refl _
  | k + 1 => by
    unfold posE
    split
    · exact Nat.le_succ_of_le posE_le
    · exact Nat.le_refl _

/-- No item stands behind one that it precedes. -/
def Srt (rank l : List Int) : Prop := ∀ i, i + 1 < l.length → bef rank (l.getD (i + 1) 0) (l.getD i 0) = false

theorem chkL_srt {rank : List Int} (h0 : (rank.length : Int) > 0) : ∀ {l pre : List Int}, chkL rank pre l = 0 → ∀ i, pre.length ≤ i + 1 → i + 1 < (pre ++ l).length → bef rank ((pre ++ l).getD (i + 1) 0) ((pre ++ l).getD i 0) = false
  | [], pre, _, i, h1, h2 => by simp at h2; omega
  | x :: xs, pre, h, i, h1, h2 => by
    unfold chkL at h
    split at h
    · split at h
      · cases h
      · split at h
        · cases h
        · rename_i hc
          by_cases he : pre.length = i + 1
          · have e1 : (pre ++ x :: xs).getD (i + 1) 0 = x := by rw [← he]; simp
            have e2 : (pre ++ x :: xs).getD i 0 = pre.getD (pre.length - 1) 0 := by
              have : pre.length - 1 = i := by omega
              rw [this]
              simp [List.getElem?_append_left (show i < pre.length by omega)]
            rw [e1, e2]
            have hp : (pre.length : Int) > 0 := by omega
            cases hb : bef rank x (pre.getD (pre.length - 1) 0) with
            | false => rfl
            | true => exact absurd ⟨h0, hp, hb⟩ hc
          · have := chkL_srt h0 h i (by simp; omega) (by simpa using h2)
            simpa using this
    · cases h

theorem chkQ_srt {rank items : List Int} (h : chkQ rank items = 0) (h0 : (rank.length : Int) > 0) : Srt rank items := by
  unfold chkQ at h
  split at h
  · cases h
  · exact fun i hi => chkL_srt h0 h i (by simp) (by simpa using hi)

theorem bef_total {rank : List Int} {x y : Int} (h : x ≠ y) (h1 : bef rank x y = false) : bef rank y x = true := by
  simp only [bef, Bool.or_eq_false_iff, Bool.and_eq_false_iff, decide_eq_false_iff_not, Bool.or_eq_true, Bool.and_eq_true, decide_eq_true_eq] at *
  omega

theorem bef_asymm {rank : List Int} {x y : Int} (h : bef rank x y = true) : bef rank y x = false := by
  cases h2 : bef rank y x with
  | false => rfl
  | true =>
    simp only [bef, Bool.or_eq_true, Bool.and_eq_true, decide_eq_true_eq] at *
    omega

theorem bef_step {rank : List Int} {x a b : Int} (h : bef rank x a = true) (h1 : bef rank b a = false) : bef rank x b = true := by
  simp only [bef, Bool.or_eq_false_iff, Bool.and_eq_false_iff, decide_eq_false_iff_not, Bool.or_eq_true, Bool.and_eq_true, decide_eq_true_eq] at *
  omega

theorem takeWhile_at {l : List Int} {p : Int → Bool} : (∀ j, j < (l.takeWhile p).length → p (l.getD j 0) = true) ∧ ((l.takeWhile p).length < l.length → p (l.getD (l.takeWhile p).length 0) = false) := by
  induction l with
  | nil => exact ⟨fun j h => by simp at h, fun h => by simp at h⟩
  | cons a l ih =>
    rw [List.takeWhile_cons]
    split
    · rename_i ha
      refine ⟨fun j hj => ?_, fun h => ?_⟩
      · cases j with
        | zero => simpa using ha
        | succ j => simpa using ih.1 j (by simpa using hj)
      · simpa using ih.2 (by simpa using h)
    · rename_i ha
      exact ⟨fun j h => by simp at h, fun _ => by simpa using ha⟩

theorem posE_eq {rank items : List Int} {x : Int} (h : chkQ rank items = 0) (hx : x ∉ items) : posE rank items x items.length = (items.takeWhile (ahead rank x)).length := by
  obtain ⟨t1, t2⟩ := takeWhile_at (l := items) (p := ahead rank x)
  have tl : (items.takeWhile (ahead rank x)).length ≤ items.length := (List.takeWhile_sublist _).length_le
  generalize (items.takeWhile (ahead rank x)).length = p at *
  by_cases h0 : (rank.length : Int) > 0
  · have hs := chkQ_srt h h0
    have hne : ¬ ((rank.length : Int) = 0) := by omega
    have mem : ∀ j, j < items.length → items.getD j 0 ∈ items := fun j hj => by simp [hj]
    have up : ∀ j, p ≤ j → j < items.length → bef rank x (items.getD j 0) = true := by
      intro j hj
      induction j with
      | zero =>
        intro hl
        have hp : p = 0 := by omega
        subst hp
        have := t2 hl
        simp only [ahead, hne, decide_false, Bool.false_or] at this
        exact bef_total (fun e => hx (e ▸ mem 0 hl)) this
      | succ j ih =>
        intro hl
        by_cases e : p = j + 1
        · subst e
          have := t2 hl
          simp only [ahead, hne, decide_false, Bool.false_or] at this
          exact bef_total (fun e => hx (e ▸ mem _ hl)) this
        · exact bef_step (ih (by omega) (by omega)) (hs j hl)
    have down : ∀ j, j < p → bef rank x (items.getD j 0) = false := fun j hj => by
      have := t1 j hj
      simp only [ahead, hne, decide_false, Bool.false_or] at this
      exact bef_asymm this
    have key : ∀ k, p ≤ k → k ≤ items.length → posE rank items x k = p := by
      intro k
      induction k with
      | zero => intro h1 _; simp [posE]; omega
      | succ k ih =>
        intro h1 h2
        unfold posE
        by_cases e : p = k + 1
        · rw [if_neg (by rintro ⟨_, hb⟩; rw [down k (by omega)] at hb; cases hb), e]
        · rw [if_pos ⟨h0, up k (by omega) (by omega)⟩]
          exact ih (by omega) (by omega)
    exact key _ tl (Nat.le_refl _)
  · have hz : (rank.length : Int) = 0 := by omega
    have hp : p = items.length := by
      by_cases hlt : p < items.length
      · have := t2 hlt
        simp [ahead, hz] at this
      · omega
    rw [hp]
    cases hn : items.length with
    | zero => rfl
    | succ n => unfold posE; rw [if_neg (fun e => h0 e.1)]

theorem insL_eq {rank items : List Int} {x : Int} (h : chkQ rank items = 0) (hx : x ∉ items) : items.take (posE rank items x items.length) ++ x :: items.drop (posE rank items x items.length) = insL rank items x := by
  rw [posE_eq h hx]
  unfold insL
  have := takeWhile_split (l := items) (p := ahead rank x)
  rw [this.1, this.2]

theorem c28 {σ : St} {base id i : Nat} {l : List Int} {x : Int} (h : σ[id]? = some (.row 1 (ints l))) (hb : base ≤ id) (hi : i ≤ l.length) (hl : l.length < 2^40) :
    callL Try.prog cfW 28 [.row 1 id l.length 0 l.length false, .int .i64 i, .list true 1 [.int .i64 x]] σ base = some (.row 1 id (l.length + 1) 0 (l.length + 1) false, σ.set id (.row 1 (ints (l.take i ++ x :: l.drop i)))) := by
  refine callL_intro ?_
  unfold enterA
  have e : cfW.prim 28 = some insP := rfl
  rw [e]
  simp only [insP, h]
  rw [if_pos ⟨hb, ints_len.symm, trivial, by omega, by omega, by omega⟩]
  simp [ints]

set_option maxRecDepth 100000 in
set_option maxHeartbeats 4000000 in
theorem c13_loop {σ : St} {r it : AV} {rank items : List Int} {x : Int} (hr : Slw σ r rank) (hi : Slw σ it items) (hlen : items.length < 2^40) (hx : fitB rank x = true) (hf : ∀ y ∈ items, fitB rank y = true) :
    ∀ k, k ≤ items.length →
      loopM Try.prog cfW 13 σ.length (loopOf Try.f13 12) (envS 70 [(1, .val (.int .i64 x)), (2, .var [r, it]), (4, .var [.list true 0 [], .list true 0 []]), (7, .var [.row 1 σ.length rank.length 0 rank.length false, .row 1 (σ.length + 1) items.length 0 items.length false]), (8, .val (.int .i64 k))], σ ++ [.row 1 (ints rank), .row 1 (ints items)]) =
        some (.exit 0, envS 70 [(1, .val (.int .i64 x)), (4, .var [.list true 0 [], .list true 0 []]), (7, .var [.row 1 σ.length rank.length 0 rank.length false, .row 1 (σ.length + 1) items.length 0 items.length false]), (8, .val (.int .i64 (posE rank items x k)))], σ ++ [.row 1 (ints rank), .row 1 (ints items)]) := by
  have hr2 := hr.sl [.row 1 (ints rank), .row 1 (ints items)]
  have rl := hr.here.len
  have rv := hr.here.v
  have iv := hi.here.v
  rw [ints_len] at rl
  have hel : elems (σ ++ [.row 1 (ints rank), .row 1 (ints items)]) 1 (.row 1 (σ.length + 1) items.length 0 items.length false) = some (ints items) := by
    simp [elems, ints, List.take_of_length_le]
  intro k
  induction k with
  | zero =>
    intro hk
    rw [loopM_step (by rfl)]
    unfold posE
    simp only [envS, loopOf, findLoop, regOf, Option.getD, envOf, List.range, List.range.loop, go_sem, Nat.reduceBEq, Try.f13]
    by_cases h1 : (rank.length : Int) > 0
    · simp only [go_sem, Nat.reduceBEq, Nat.reduceAdd, Nat.reduceSub, Nat.reduceEqDiff, Nat.reduceLeDiff, Nat.reduceMul, rgT, regionT, cfVars, cfKeep, allocs, isv?, stepO, okDst, wantedA, evalOp, evalV, evalS, storeAt, look, ofV, ofC, putA, clearA, lookV, lookVs, lookParts, adrOk, baseAt, baseOf, loadAt, partA, binA, unA, resOf, mkRes, envOf, List.range, List.range.loop, evalBuiltin, liveW, cfLive, cfOut, cfRes, regOf, startE, optN, mapGet, mapPut, orZero, keyOk, cellOk, rl, rv, iv, h1]
    · simp only [go_sem, Nat.reduceBEq, Nat.reduceAdd, Nat.reduceSub, Nat.reduceEqDiff, Nat.reduceLeDiff, Nat.reduceMul, rgT, regionT, cfVars, cfKeep, allocs, isv?, stepO, okDst, wantedA, evalOp, evalV, evalS, storeAt, look, ofV, ofC, putA, clearA, lookV, lookVs, lookParts, adrOk, baseAt, baseOf, loadAt, partA, binA, unA, resOf, mkRes, envOf, List.range, List.range.loop, evalBuiltin, liveW, cfLive, cfOut, cfRes, regOf, startE, optN, mapGet, mapPut, orZero, keyOk, cellOk, rl, rv, iv, h1]
  | succ k ih =>
    intro hk
    have hlt : k < items.length := by omega
    have hget : (ints items)[k]? = some (.int .i64 (items.getD k 0)) := (in_rangeN hlt).2
    have hw : IntKind.i64.wrap (((k + 1 : Nat) : Int) - 1) = ((k : Nat) : Int) := by rw [wrap_i64] <;> omega
    have hp : (((k + 1 : Nat) : Int) > 0) = True := by simp <;> omega
    have hge : ((0 : Int) ≤ (k : Int)) = True := by simp
    have hlt2 : ((k : Int) < (items.length : Int)) = True := by simp [hlt]
    have ih' := ih (by omega)
    have hyf : fitB rank (items.getD k 0) = true := hf _ (by simp [hlt])
    rw [loopM_step (by rfl)]
    unfold posE
    simp only [envS, loopOf, findLoop, regOf, Option.getD, envOf, List.range, List.range.loop, go_sem, Nat.reduceBEq, Try.f13] at ih' ⊢
    by_cases h1 : (rank.length : Int) > 0
    · have hbef := fun b => c27 (base := b) hr2 (fit_range hx h1) (fit_range hyf h1)
      generalize items.getD k 0 = y at *
      by_cases h2 : bef rank x y = true
      · simp only [go_sem, Nat.reduceBEq, Nat.reduceAdd, Nat.reduceSub, Nat.reduceEqDiff, Nat.reduceLeDiff, Nat.reduceMul, rgT, regionT, cfVars, cfKeep, allocs, isv?, stepO, okDst, wantedA, evalOp, evalV, evalS, storeAt, look, ofV, ofC, putA, clearA, lookV, lookVs, lookParts, adrOk, baseAt, baseOf, loadAt, partA, binA, unA, resOf, mkRes, envOf, List.range, List.range.loop, evalBuiltin, liveW, cfLive, cfOut, cfRes, regOf, startE, optN, mapGet, mapPut, orZero, keyOk, cellOk, rl, rv, iv, h1, hp, hw, hel, hge, hlt2, hget, hbef, h2, ih', and_self, if_true]
      · have h2' : bef rank x y = false := by simpa using h2
        simp only [go_sem, Nat.reduceBEq, Nat.reduceAdd, Nat.reduceSub, Nat.reduceEqDiff, Nat.reduceLeDiff, Nat.reduceMul, rgT, regionT, cfVars, cfKeep, allocs, isv?, stepO, okDst, wantedA, evalOp, evalV, evalS, storeAt, look, ofV, ofC, putA, clearA, lookV, lookVs, lookParts, adrOk, baseAt, baseOf, loadAt, partA, binA, unA, resOf, mkRes, envOf, List.range, List.range.loop, evalBuiltin, liveW, cfLive, cfOut, cfRes, regOf, startE, optN, mapGet, mapPut, orZero, keyOk, cellOk, rl, rv, iv, h1, hp, hw, hel, hge, hlt2, hget, hbef, h2', Bool.false_eq_true, and_false, if_false]
    · simp only [go_sem, Nat.reduceBEq, Nat.reduceAdd, Nat.reduceSub, Nat.reduceEqDiff, Nat.reduceLeDiff, Nat.reduceMul, rgT, regionT, cfVars, cfKeep, allocs, isv?, stepO, okDst, wantedA, evalOp, evalV, evalS, storeAt, look, ofV, ofC, putA, clearA, lookV, lookVs, lookParts, adrOk, baseAt, baseOf, loadAt, partA, binA, unA, resOf, mkRes, envOf, List.range, List.range.loop, evalBuiltin, liveW, cfLive, cfOut, cfRes, regOf, startE, optN, mapGet, mapPut, orZero, keyOk, cellOk, rl, rv, iv, h1, hp, false_and, if_false]

set_option maxRecDepth 100000 in
set_option maxHeartbeats 4000000 in
theorem c13 {σ : St} {base : Nat} {r it : AV} {rank items : List Int} {x : Int} (hr : Ls r rank) (hi : Ls it items) (hlen : items.length < 2^40) (hlenr : rank.length < 2^40) :
    ∃ a b, callL Try.prog cfW 13 [.agg [r, it], .int .i64 x] σ base = some (.tup [.agg [a, b], .int .i64 (pushQ rank items x).2.2], σ) ∧ Ls a (pushQ rank items x).1 ∧ Ls b (pushQ rank items x).2.1 := by
  have rv := (hr.slw σ).here.v
  have rc := (hr.slw σ).here.cells
  have iv := (hi.slw σ).here.v
  have ic := (hi.slw σ).here.cells
  have il := (hi.slw σ).here.len
  rw [ints_len] at il
  have hck := fun b => c16 (base := b) (hr.slw σ).here (hi.slw σ).here (hr.slw σ).sl (hi.slw σ).sl (by omega)
  have hit := fun b => c25 (base := b) (hr.slw σ).here (i := it) ic (x := x)
  unfold pushQ
  by_cases h1 : chkQ rank items = 0
  · rw [if_pos h1]
    by_cases h2 : fitB rank x = true
    · rw [if_pos h2]
      have ho1 := fun b => c23 (base := b) (hr.slw σ).here hlenr
      have ho2 := fun b => c23 (base := b) ((hi.slw σ).sl [.row 1 (ints rank)]) hlen
      have hat := fun b => c26 (base := b) ((hi.slw σ).sl [.row 1 (ints rank), .row 1 (ints items)]) (x := x) (by omega)
      simp only [x_lenApp, x_lenS, x_len0] at ho2
      have q1 := fun (k : Nat) (z : Ob) => frz_row (n := σ.length) (σ := σ ++ [.row 1 (ints rank), z]) (k := k) (id := σ.length) (l := rank) (off := 0) (len := rank.length) (lim := false) (Nat.le_refl _) (by simp)
      simp only [List.drop_zero, List.take_length] at q1
      by_cases h3 : x ∈ items
      · rw [if_pos h3]
        refine ⟨.list false 1 (ints rank), .list false 1 (ints items), ?_, .list, .list⟩
        refine callL_pure (σ' := σ ++ [.row 1 (ints rank), .row 1 (ints items)]) (v := .tup [.agg [.row 1 σ.length rank.length 0 rank.length false, .row 1 (σ.length + 1) items.length 0 items.length false], .int .i64 0]) Try.func13 rfl (by kernel_rfl) rfl rfl (by simp) ?_ ?_
        · unfold bodyT
          simp only [Try.f13, go_sem, Nat.reduceBEq, Nat.reduceAdd, Nat.reduceSub, Nat.reduceEqDiff, Nat.reduceLeDiff, Nat.reduceMul, rgT, regionT, cfVars, cfKeep, allocs, isv?, stepO, okDst, wantedA, evalOp, evalV, evalS, storeAt, look, ofV, ofC, putA, clearA, lookV, lookVs, lookParts, adrOk, baseAt, baseOf, loadAt, partA, binA, unA, resOf, mkRes, envOf, List.range, List.range.loop, evalBuiltin, liveW, cfLive, cfOut, cfRes, regOf, startE, optN, mapGet, mapPut, orZero, keyOk, cellOk, rv, rc, ic, il, iv, hck, hit, h1, h2, ho1, ho2, hat, h3]
        · have q2 := frz_row (n := σ.length) (σ := σ ++ [.row 1 (ints rank), .row 1 (ints items)]) (k := 2) (id := σ.length + 1) (l := items) (off := 0) (len := items.length) (lim := false) (by omega) (by simp)
          simp only [List.drop_zero, List.take_length] at q2
          simp only [go_sem, q1, q2]
      · rw [if_neg h3]
        by_cases h4 : (items.length : Int) ≥ 8192
        · rw [if_pos h4]
          refine ⟨.list true 0 [], .list true 0 [], ?_, .nil, .nil⟩
          refine callL_pure (σ' := σ ++ [.row 1 (ints rank), .row 1 (ints items)]) (v := .tup [.agg [.list true 0 [], .list true 0 []], .int .i64 3]) Try.func13 rfl (by kernel_rfl) rfl rfl (by simp) ?_ rfl
          unfold bodyT
          simp only [Try.f13, go_sem, Nat.reduceBEq, Nat.reduceAdd, Nat.reduceSub, Nat.reduceEqDiff, Nat.reduceLeDiff, Nat.reduceMul, rgT, regionT, cfVars, cfKeep, allocs, isv?, stepO, okDst, wantedA, evalOp, evalV, evalS, storeAt, look, ofV, ofC, putA, clearA, lookV, lookVs, lookParts, adrOk, baseAt, baseOf, loadAt, partA, binA, unA, resOf, mkRes, envOf, List.range, List.range.loop, evalBuiltin, liveW, cfLive, cfOut, cfRes, regOf, startE, optN, mapGet, mapPut, orZero, keyOk, cellOk, rv, rc, ic, il, iv, hck, hit, h1, h2, ho1, ho2, hat, h3, h4]
        · rw [if_neg h4]
          have key := c13_loop (hr.slw σ) (hi.slw σ) hlen h2 (chkQ_fit h1) items.length (Nat.le_refl _)
          have hins := insL_eq h1 h3
          have hp := posE_le (rank := rank) (items := items) (x := x) (k := items.length)
          have h28 := c28 (σ := σ ++ [.row 1 (ints rank), .row 1 (ints items)]) (base := σ.length) (id := σ.length + 1) (i := posE rank items x items.length) (l := items) (x := x) (by simp) (by omega) hp hlen
          rw [hins] at h28
          have hl : (insL rank items x).length = items.length + 1 := by rw [← hins]; simp; omega
          have hset : (σ ++ [Ob.row 1 (ints rank), Ob.row 1 (ints items)]).set (σ.length + 1) (Ob.row 1 (ints (insL rank items x))) = σ ++ [Ob.row 1 (ints rank), Ob.row 1 (ints (insL rank items x))] := by simp
          rw [hset] at h28
          simp only [envS, loopOf, findLoop, regOf, Option.getD, envOf, List.range, List.range.loop, go_sem, Nat.reduceBEq, Try.f13] at key
          refine ⟨.list false 1 (ints rank), .list false 1 (ints (insL rank items x)), ?_, .list, .list⟩
          refine callL_pure (σ' := σ ++ [.row 1 (ints rank), .row 1 (ints (insL rank items x))]) (v := .tup [.agg [.row 1 σ.length rank.length 0 rank.length false, .row 1 (σ.length + 1) (items.length + 1) 0 (items.length + 1) false], .int .i64 0]) Try.func13 rfl (by kernel_rfl) rfl rfl (by simp) ?_ ?_
          · unfold bodyT
            generalize posE rank items x items.length = p at *
            simp only [Try.f13, go_sem, Nat.reduceBEq, Nat.reduceAdd, Nat.reduceSub, Nat.reduceEqDiff, Nat.reduceLeDiff, Nat.reduceMul, rgT, regionT, cfVars, cfKeep, allocs, isv?, stepO, okDst, wantedA, evalOp, evalV, evalS, storeAt, look, ofV, ofC, putA, clearA, lookV, lookVs, lookParts, adrOk, baseAt, baseOf, loadAt, partA, binA, unA, resOf, mkRes, envOf, List.range, List.range.loop, evalBuiltin, liveW, cfLive, cfOut, cfRes, regOf, startE, optN, mapGet, mapPut, orZero, keyOk, cellOk, rv, rc, ic, il, iv, hck, hit, h1, h2, ho1, ho2, hat, h3, h4, key, h28]
          · have q2 := frz_row (n := σ.length) (σ := σ ++ [.row 1 (ints rank), .row 1 (ints (insL rank items x))]) (k := 2) (id := σ.length + 1) (l := insL rank items x) (off := 0) (len := (insL rank items x).length) (lim := false) (by omega) (by simp)
            simp only [List.drop_zero, List.take_length] at q2
            simp only [hl] at q2
            simp only [go_sem, q1, q2]
    · have h2' : fitB rank x = false := by simpa using h2
      rw [if_neg h2]
      refine ⟨.list true 0 [], .list true 0 [], ?_, .nil, .nil⟩
      refine callL_pure (σ' := σ) (v := .tup [.agg [.list true 0 [], .list true 0 []], .int .i64 4]) Try.func13 rfl (by kernel_rfl) rfl rfl (by simp) ?_ rfl
      unfold bodyT
      simp only [Try.f13, go_sem, Nat.reduceBEq, Nat.reduceAdd, Nat.reduceSub, Nat.reduceEqDiff, Nat.reduceLeDiff, Nat.reduceMul, rgT, regionT, cfVars, cfKeep, allocs, isv?, stepO, okDst, wantedA, evalOp, evalV, evalS, storeAt, look, ofV, ofC, putA, clearA, lookV, lookVs, lookParts, adrOk, baseAt, baseOf, loadAt, partA, binA, unA, resOf, mkRes, envOf, List.range, List.range.loop, evalBuiltin, liveW, cfLive, cfOut, cfRes, regOf, startE, optN, mapGet, mapPut, orZero, keyOk, cellOk, rv, rc, ic, il, iv, hck, hit, h1, h2']
  · rw [if_neg h1]
    refine ⟨.list true 0 [], .list true 0 [], ?_, .nil, .nil⟩
    refine callL_pure (σ' := σ) (v := .tup [.agg [.list true 0 [], .list true 0 []], .int .i64 (chkQ rank items)]) Try.func13 rfl (by kernel_rfl) rfl rfl (by simp) ?_ rfl
    unfold bodyT
    simp only [Try.f13, go_sem, Nat.reduceBEq, Nat.reduceAdd, Nat.reduceSub, Nat.reduceEqDiff, Nat.reduceLeDiff, Nat.reduceMul, rgT, regionT, cfVars, cfKeep, allocs, isv?, stepO, okDst, wantedA, evalOp, evalV, evalS, storeAt, look, ofV, ofC, putA, clearA, lookV, lookVs, lookParts, adrOk, baseAt, baseOf, loadAt, partA, binA, unA, resOf, mkRes, envOf, List.range, List.range.loop, evalBuiltin, liveW, cfLive, cfOut, cfRes, regOf, startE, optN, mapGet, mapPut, orZero, keyOk, cellOk, rv, rc, ic, il, iv, hck, h1]

end Go.Can
