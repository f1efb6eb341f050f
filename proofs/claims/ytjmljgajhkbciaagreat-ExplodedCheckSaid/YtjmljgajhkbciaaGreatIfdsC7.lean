/- Contracts: the program's search for the edges of a node. Contracts: does a call lead to a function? The program's answer. -/
import Derived.Test.YtjmljgajhkbciaaGreatIfdsC3
set_option linter.unusedSimpArgs false
set_option linter.unusedVariables false
namespace Go.Can
open Go Go.Proofs

theorem c118' {σ : St} {base : Nat} {a1 a2 a3 a4 b1 b2 b3 b4 : Int} : callL Tryz.prog cfI 113 [.agg [.int .i64 a1, .int .i64 a2, .int .i64 a3, .int .i64 a4], .agg [.int .i64 b1, .int .i64 b2, .int .i64 b3, .int .i64 b4]] σ base = some (.int .i64 (cmpI a1 b1), σ) := c118 (a := (a1, a2, a3, a4)) (b := (b1, b2, b3, b4))

theorem cmpI_lt {a b : Int} (h : a < b) : (cmpI a b < 0) = True := by simp [cmpI, h]
theorem cmpI_ge {a b : Int} (h : ¬ a < b) : (cmpI a b < 0) = False := by
  unfold cmpI
  rw [if_neg h]
  split <;> simp

/-- The edges ascend by the node that they leave. -/
def Srt (es : List (Int × Int × Int × Int)) : Prop := es.Pairwise fun a b => a.1 ≤ b.1
def lower (es : List (Int × Int × Int × Int)) (c : Int) : Nat := es.findIdx fun e => decide (c ≤ e.1)

theorem lower_le {es : List (Int × Int × Int × Int)} {c : Int} : lower es c ≤ es.length := List.findIdx_le_length
theorem lower_lt {es : List (Int × Int × Int × Int)} {c : Int} {k : Nat} {y : Int × Int × Int × Int} (h : k < lower es c) (hy : es[k]? = some y) : y.1 < c := by
  have := List.not_of_lt_findIdx h
  obtain ⟨h1, rfl⟩ := List.getElem?_eq_some_iff.1 hy
  simp at this
  omega
theorem lower_ge {es : List (Int × Int × Int × Int)} {c : Int} (hs : Srt es) {k : Nat} {y : Int × Int × Int × Int} (h : lower es c ≤ k) (hy : es[k]? = some y) : ¬ y.1 < c := by
  obtain ⟨h1, rfl⟩ := List.getElem?_eq_some_iff.1 hy
  have h2 : lower es c < es.length := by omega
  have h3 := List.findIdx_getElem (w := h2)
  simp only [decide_eq_true_eq] at h3
  rcases Nat.lt_or_eq_of_le h with h | h
  · have := List.pairwise_iff_getElem.1 hs (lower es c) k h2 h1 h
    unfold lower at this
    omega
  · subst h
    unfold lower
    omega

set_option maxRecDepth 100000 in
set_option maxHeartbeats 4000000 in
theorem c117 {σ : St} {base : Nat} {ev : AV} {es : List (Int × Int × Int × Int)} {c b2 b3 b4 : Int} (he : Sl σ 4 ev (es.map edgeA)) (hlen : es.length < 2^62) (hsrt : Srt es) :
    ∃ q, callL Tryz.prog cfI 112 [ev, .agg [.int .i64 c, .int .i64 b2, .int .i64 b3, .int .i64 b4], .fn 113 [] []] σ base = some (.tup [.int .i64 (lower es c : Nat), .bool q], σ) := by
  have hl := he.len
  have hv := he.v
  have hel0 := he.el
  rw [List.length_map] at hl
  have key : ∀ n (i j : Nat), j - i ≤ n → i ≤ lower es c → lower es c ≤ j → j ≤ es.length →
      loopM Tryz.prog cfI 112 σ.length (loopOf Tryz.f112 3) (envS 49 [(0, .val ev), (2, .val (.fn 113 [] [])), (4, .var [.int .i64 c, .int .i64 b2, .int .i64 b3, .int .i64 b4]), (8, .val (.int .i64 es.length)), (9, .val (.int .i64 i)), (10, .val (.int .i64 j))], σ) =
      some (.exit 0, envS 49 [(0, .val ev), (2, .val (.fn 113 [] [])), (4, .var [.int .i64 c, .int .i64 b2, .int .i64 b3, .int .i64 b4]), (8, .val (.int .i64 es.length)), (9, .val (.int .i64 (lower es c : Nat)))], σ) := by
    intro n
    induction n with
    | zero =>
      intro i j h1 h2 h3 h4
      have e1 : i = lower es c := by omega
      have e2 : j = lower es c := by omega
      subst e1
      have hi' : ¬ (((lower es c : Nat) : Int) < (j : Int)) := by omega
      rw [loopM_step (by kernel_rfl)]
      simp only [loopOf, findLoop, regOf, Option.getD, envOf, List.range, List.range.loop, go_sem, Nat.reduceBEq, Nat.reduceEqDiff, Option.some.injEq, reduceCtorEq, envS, Tryz.f112]
      simp only [go_sem, Nat.reduceBEq, Nat.reduceAdd, Nat.reduceSub, Nat.reduceEqDiff, Nat.reduceLeDiff, Nat.reduceMul, rgT, z_regionT, allocs, isv?, z_step, z_stepE, okDst, wantedA, evalOp, evalV, evalS, storeAt, look, ofV, ofC, putA, clearA, lookV, lookVs, lookParts, adrOk, baseAt, baseOf, loadAt, partA, binA, unA, resOf, mkRes, envOf, List.range, List.range.loop, evalBuiltin, liveW, regOf, startE, optN, mapGet, mapPut, orZero, keyOk, cellOk, decide_eq_true_eq, Bool.not_eq_true', decide_eq_false_iff_not, ite_not, not_true_eq_false, not_false_eq_true, reduceCtorEq, and_true, true_and, and_self, envS, hl, hv, hi']
    | succ n ih =>
      intro i j h1 h2 h3 h4
      by_cases hij : i < j
      · have hlt' : ((i : Int) < (j : Int)) := by omega
        have hh : (i + j) / 2 < es.length := by omega
        obtain ⟨⟨y1, y2, y3, y4⟩, _, hel, hy⟩ := drop_at edgeA hh
        have hw1 : IntKind.i64.wrap ((i : Int) + (j : Int)) = ((i + j : Nat) : Int) := by rw [wrap_i64] <;> omega
        have hw2 : IntKind.u64.wrap ((i + j : Nat) : Int) = ((i + j : Nat) : Int) := by
          simp [IntKind.wrap, IntKind.bits, IntKind.signed]
          omega
        have hw3 : IntKind.i64.wrap (((i + j) / 2 : Nat) : Int) = (((i + j) / 2 : Nat) : Int) := by rw [wrap_i64] <;> omega
        have hw4 : (((i + j : Nat) : Int)).fdiv (2 ^ min (Int.toNat 1) 64) = (((i + j) / 2 : Nat) : Int) := by
          rw [show (2 : Int) ^ min (Int.toNat 1) 64 = 2 from rfl, Int.fdiv_eq_ediv_of_nonneg _ (by omega)]
          omega
        have hw5 : IntKind.u64.wrap (((i + j) / 2 : Nat) : Int) = (((i + j) / 2 : Nat) : Int) := by
          simp [IntKind.wrap, IntKind.bits, IntKind.signed]
          omega
        have hw6 : IntKind.i64.wrap ((((i + j) / 2 : Nat) : Int) + 1) = (((i + j) / 2 + 1 : Nat) : Int) := by rw [wrap_i64] <;> omega
        have hsh : ((1 : Int) < 0) = False := by simp
        rw [loopM_step (by kernel_rfl)]
        by_cases hy1 : y1 < c
        · have hL : (i + j) / 2 < lower es c := by
            rcases Nat.lt_or_ge ((i + j) / 2) (lower es c) with h | h
            · exact h
            · exact absurd hy1 (lower_ge hsrt h hy)
          have ih' := ih ((i + j) / 2 + 1) j (by omega) (by omega) h3 h4
          have hc := cmpI_lt hy1
          simp only [loopOf, findLoop, regOf, Option.getD, envOf, List.range, List.range.loop, go_sem, Nat.reduceBEq, Nat.reduceEqDiff, Option.some.injEq, reduceCtorEq, envS, Tryz.f112] at ih' ⊢
          generalize (i + j) / 2 = k at *
          unfold edgeA at hel hel0
          generalize List.map _ es = A at *
          have hk : (k : Int) < (es.length : Int) := by omega
          simp only [go_sem, Nat.reduceBEq, Nat.reduceAdd, Nat.reduceSub, Nat.reduceEqDiff, Nat.reduceLeDiff, Nat.reduceMul, rgT, z_regionT, allocs, isv?, z_step, z_stepE, okDst, wantedA, evalOp, evalV, evalS, storeAt, look, ofV, ofC, putA, clearA, lookV, lookVs, lookParts, adrOk, baseAt, baseOf, loadAt, partA, binA, unA, resOf, mkRes, envOf, List.range, List.range.loop, evalBuiltin, liveW, regOf, startE, optN, mapGet, mapPut, orZero, keyOk, cellOk, decide_eq_true_eq, Bool.not_eq_true', decide_eq_false_iff_not, ite_not, not_true_eq_false, not_false_eq_true, reduceCtorEq, and_true, true_and, and_self, envS, hl, hv, hel0, hlt', hel, hw1, hw2, hw4, hw3, hw5, hw6, hsh, hk, hc, ih', c118']
        · have hL : lower es c ≤ (i + j) / 2 := by
            rcases Nat.lt_or_ge ((i + j) / 2) (lower es c) with h | h
            · exact absurd (lower_lt h hy) hy1
            · exact h
          have ih' := ih i ((i + j) / 2) (by omega) h2 hL (by omega)
          have hc := cmpI_ge hy1
          simp only [loopOf, findLoop, regOf, Option.getD, envOf, List.range, List.range.loop, go_sem, Nat.reduceBEq, Nat.reduceEqDiff, Option.some.injEq, reduceCtorEq, envS, Tryz.f112] at ih' ⊢
          generalize (i + j) / 2 = k at *
          unfold edgeA at hel hel0
          generalize List.map _ es = A at *
          have hk : (k : Int) < (es.length : Int) := by omega
          simp only [go_sem, Nat.reduceBEq, Nat.reduceAdd, Nat.reduceSub, Nat.reduceEqDiff, Nat.reduceLeDiff, Nat.reduceMul, rgT, z_regionT, allocs, isv?, z_step, z_stepE, okDst, wantedA, evalOp, evalV, evalS, storeAt, look, ofV, ofC, putA, clearA, lookV, lookVs, lookParts, adrOk, baseAt, baseOf, loadAt, partA, binA, unA, resOf, mkRes, envOf, List.range, List.range.loop, evalBuiltin, liveW, regOf, startE, optN, mapGet, mapPut, orZero, keyOk, cellOk, decide_eq_true_eq, Bool.not_eq_true', decide_eq_false_iff_not, ite_not, not_true_eq_false, not_false_eq_true, reduceCtorEq, and_true, true_and, and_self, envS, hl, hv, hel0, hlt', hel, hw1, hw2, hw4, hw3, hw5, hw6, hsh, hk, hc, ih', c118']
      · exact ih i j (by omega) h2 h3 h4
  have key0 := key es.length 0 es.length (by omega) (by omega) lower_le (by omega)
  rw [show ((0 : Nat) : Int) = 0 from rfl] at key0
  by_cases hin : lower es c < es.length
  · obtain ⟨⟨y1, y2, y3, y4⟩, _, hel, hy⟩ := drop_at edgeA hin
    refine ⟨decide (cmpI y1 c = 0), callL_pure (σ' := σ) (v := .tup [.int .i64 (lower es c : Nat), .bool (decide (cmpI y1 c = 0))]) Tryz.func112 rfl (by kernel_rfl) rfl rfl (by simp) ?_ rfl⟩
    rw [z_body]
    simp only [loopOf, findLoop, regOf, Option.getD, envOf, List.range, List.range.loop, go_sem, Nat.reduceBEq, Nat.reduceEqDiff, Option.some.injEq, reduceCtorEq, envS, Tryz.f112] at key0
    generalize lower es c = k at *
    unfold edgeA at hel hel0
    generalize List.map _ es = A at *
    have hk : (k : Int) < (es.length : Int) := by omega
    simp only [Tryz.f112, go_sem, Nat.reduceBEq, Nat.reduceAdd, Nat.reduceSub, Nat.reduceEqDiff, Nat.reduceLeDiff, Nat.reduceMul, rgT, z_regionT, allocs, isv?, z_step, z_stepE, okDst, wantedA, evalOp, evalV, evalS, storeAt, look, ofV, ofC, putA, clearA, lookV, lookVs, lookParts, adrOk, baseAt, baseOf, loadAt, partA, binA, unA, resOf, mkRes, envOf, List.range, List.range.loop, evalBuiltin, liveW, regOf, startE, optN, mapGet, mapPut, orZero, keyOk, cellOk, decide_eq_true_eq, Bool.not_eq_true', decide_eq_false_iff_not, ite_not, not_true_eq_false, not_false_eq_true, reduceCtorEq, and_true, true_and, and_self, hv, hl, hel0, hel, key0, hk, c118']
  · refine ⟨false, callL_pure (σ' := σ) (v := .tup [.int .i64 (lower es c : Nat), .bool false]) Tryz.func112 rfl (by kernel_rfl) rfl rfl (by simp) ?_ rfl⟩
    rw [z_body]
    simp only [loopOf, findLoop, regOf, Option.getD, envOf, List.range, List.range.loop, go_sem, Nat.reduceBEq, Nat.reduceEqDiff, Option.some.injEq, reduceCtorEq, envS, Tryz.f112] at key0
    generalize lower es c = k at *
    have hk : ¬ (k : Int) < (es.length : Int) := by omega
    simp only [Tryz.f112, go_sem, Nat.reduceBEq, Nat.reduceAdd, Nat.reduceSub, Nat.reduceEqDiff, Nat.reduceLeDiff, Nat.reduceMul, rgT, z_regionT, allocs, isv?, z_step, z_stepE, okDst, wantedA, evalOp, evalV, evalS, storeAt, look, ofV, ofC, putA, clearA, lookV, lookVs, lookParts, adrOk, baseAt, baseOf, loadAt, partA, binA, unA, resOf, mkRes, envOf, List.range, List.range.loop, evalBuiltin, liveW, regOf, startE, optN, mapGet, mapPut, orZero, keyOk, cellOk, decide_eq_true_eq, Bool.not_eq_true', decide_eq_false_iff_not, ite_not, not_true_eq_false, not_false_eq_true, reduceCtorEq, and_true, true_and, and_self, hv, hl, key0, hk]

end Go.Can

namespace Go.Can
open Go Go.Proofs

/-- The first edges of a list, as long as they leave the node. -/
def entR (ns : List (Int × Int × Int)) (c f : Int) : List (Int × Int × Int × Int) → Bool
  | [] => false
  | e :: l => if e.1 = c then (if e.2.2.1 = 2 ∧ startsAt ns e.2.1 f = true then true else entR ns c f l) else false

theorem entR_any {ns : List (Int × Int × Int)} {c f : Int} : ∀ {l : List (Int × Int × Int × Int)}, Srt l → (∀ e ∈ l, c ≤ e.1) → entR ns c f l = l.any (callB ns c f)
  | [], _, _ => rfl
  | e :: l, hs, hc => by
    obtain ⟨h1, h2⟩ := List.pairwise_cons.1 hs
    unfold entR
    rw [List.any_cons]
    have ih := entR_any (ns := ns) (c := c) (f := f) h2 (fun x hx => hc x (by simp [hx]))
    by_cases he : e.1 = c
    · rw [if_pos he, ih]
      unfold callB
      by_cases hk : e.2.2.1 = 2
      · cases hq : startsAt ns e.2.1 f <;> simp [he, hk]
      · simp [hk]
    · rw [if_neg he]
      have hgt : c < e.1 := by have := hc e (by simp); omega
      have hn : callB ns c f e = false := by unfold callB; simp [he]
      rw [hn, Bool.false_or]
      symm
      rw [List.any_eq_false]
      intro x hx
      have := h1 x hx
      have hx' : ¬ x.1 = c := by omega
      unfold callB
      simp [hx']

theorem ent_eq {ns : List (Int × Int × Int)} {es : List (Int × Int × Int × Int)} {c f : Int} (hs : Srt es) : entR ns c f (es.drop (lower es c)) = es.any (callB ns c f) := by
  have h1 : Srt (es.drop (lower es c)) := List.Pairwise.sublist (List.drop_sublist _ _) hs
  rw [entR_any h1]
  · conv => rhs; rw [← List.take_append_drop (lower es c) es, List.any_append]
    have : (es.take (lower es c)).any (callB ns c f) = false := by
      rw [List.any_eq_false]
      intro x hx
      obtain ⟨k, hk, rfl⟩ := List.getElem_of_mem hx
      have hk' : k < lower es c := by
        have := hk
        simp at this
        omega
      rw [List.getElem_take]
      have hl : k < es.length := Nat.lt_of_lt_of_le hk' lower_le
      have := lower_lt (y := es[k]) hk' (by simp [hl])
      unfold callB
      have : ¬ (es[k]).1 = c := by omega
      simp [this]
    rw [this, Bool.false_or]
  · intro x hx
    obtain ⟨k, hk, rfl⟩ := List.getElem_of_mem hx
    rw [List.getElem_drop]
    have hl : lower es c + k < es.length := by
      have := hk
      simp at this
      omega
    have := lower_ge (c := c) hs (k := lower es c + k) (y := es[lower es c + k]) (by omega) (by simp [hl])
    omega

set_option maxRecDepth 100000 in
set_option maxHeartbeats 8000000 in
theorem c88 {σ : St} {base : Nat} {nv ev : AV} {ns : List (Int × Int × Int)} {es : List (Int × Int × Int × Int)} {m c f : Int} (hs : Sl σ 3 nv (ns.map nodeA)) (he : Sl σ 4 ev (es.map edgeA)) (hlen : es.length < 2^62) (hsrt : Srt es) :
    callL Tryz.prog cfI 97 [.agg [nv, ev, .int .i64 m], .int .i64 c, .int .i64 f] σ base = some (.bool (es.any (callB ns c f)), σ) := by
  have hl := hs.len
  have hv := hs.v
  have hel0 := hs.el
  have hl2 := he.len
  have hv2 := he.v
  have hel2 := he.el
  rw [List.length_map] at hl hl2
  have key : ∀ n (i : Nat), i + n = es.length → loopM Tryz.prog cfI 97 σ.length (loopOf Tryz.f97 2) (envS 77 [(1, .val (.int .i64 c)), (2, .val (.int .i64 f)), (3, .var [nv, ev, .int .i64 m]), (7, .val (.int .i64 i))], σ) =
     if entR ns c f (es.drop i) = true then some (.ret, envS 77 [(6, .val (.bool true))], σ) else some (.exit 0, envS 77 [], σ) := by
    intro n
    induction n with
    | zero =>
      intro i hi
      have hi' : ¬ ((i : Int) < es.length) := by omega
      have hd : es.drop i = [] := List.drop_eq_nil_of_le (by omega)
      rw [loopM_step (by kernel_rfl), hd]
      simp only [loopOf, findLoop, regOf, Option.getD, envOf, List.range, List.range.loop, go_sem, Nat.reduceBEq, Nat.reduceEqDiff, Option.some.injEq, reduceCtorEq, envS, Tryz.f97]
      simp only [go_sem, Nat.reduceBEq, Nat.reduceAdd, Nat.reduceSub, Nat.reduceEqDiff, Nat.reduceLeDiff, Nat.reduceMul, rgT, z_regionT, allocs, isv?, z_step, z_stepE, okDst, wantedA, evalOp, evalV, evalS, storeAt, look, ofV, ofC, putA, clearA, lookV, lookVs, lookParts, adrOk, baseAt, baseOf, loadAt, partA, binA, unA, resOf, mkRes, envOf, List.range, List.range.loop, evalBuiltin, liveW, regOf, startE, optN, mapGet, mapPut, orZero, keyOk, cellOk, decide_eq_true_eq, Bool.not_eq_true', decide_eq_false_iff_not, ite_not, not_true_eq_false, not_false_eq_true, reduceCtorEq, and_true, true_and, and_self, envS, hl2, hv2, hi', entR]
    | succ n ih =>
      intro i hi
      have hlt : i < es.length := by omega
      obtain ⟨⟨y1, y2, y3, y4⟩, hd, hel, _⟩ := drop_at edgeA hlt
      have hw := w_inc hlt (by omega)
      have hlt' : (i : Int) < (es.length : Int) := by omega
      have h0i : (0 : Int) ≤ (i : Int) := by omega
      have ih' := ih (i + 1) (by omega)
      rw [loopM_step (by kernel_rfl), hd]
      simp only [loopOf, findLoop, regOf, Option.getD, envOf, List.range, List.range.loop, go_sem, Nat.reduceBEq, Nat.reduceEqDiff, Option.some.injEq, reduceCtorEq, envS, Tryz.f97] at ih' ⊢
      unfold edgeA at hel hel2
      generalize List.map _ es = A at *
      by_cases hc : y1 = c
      · by_cases hin : 0 ≤ y2 ∧ y2 < (ns.length : Int)
        · obtain ⟨h0, h1⟩ := hin
          have h2 : y2.toNat < ns.length := by omega
          have hn : (ns.map nodeA)[y2.toNat]? = some (nodeA (ns.getD y2.toNat (0, 0, 0))) := by rw [n_at, if_pos h2]
          have hst : startsAt ns y2 f = decide ((ns.getD y2.toNat (0, 0, 0)).1 = f ∧ (ns.getD y2.toNat (0, 0, 0)).2.1 = 1) := by
            unfold startsAt
            simp only [h0, h1, true_and]
          unfold entR
          simp only [hst]
          generalize ns.getD y2.toNat (0, 0, 0) = q at *
          obtain ⟨q1, q2, q3⟩ := q
          unfold nodeA at hn hel0
          generalize List.map _ ns = B at *
          simp (config := { maxSteps := 4000000 }) only [go_sem, Nat.reduceBEq, Nat.reduceAdd, Nat.reduceSub, Nat.reduceEqDiff, Nat.reduceLeDiff, Nat.reduceMul, rgT, z_regionT, allocs, isv?, z_step, z_stepE, okDst, wantedA, evalOp, evalV, evalS, storeAt, look, ofV, ofC, putA, clearA, lookV, lookVs, lookParts, adrOk, baseAt, baseOf, loadAt, partA, binA, unA, resOf, mkRes, envOf, List.range, List.range.loop, evalBuiltin, liveW, regOf, startE, optN, mapGet, mapPut, orZero, keyOk, cellOk, decide_eq_true_eq, Bool.not_eq_true', decide_eq_false_iff_not, ite_not, not_true_eq_false, not_false_eq_true, reduceCtorEq, and_true, true_and, and_self, envS, hl, hl2, hv, hv2, hel0, hel2, hlt', h0i, hel, hw, ih', h0, h1, hn, hc, ge_iff_le, if_true]
          clear ih ih' hel hn hel0 hel2
          generalize entR ns c f (List.drop (i + 1) es) = b
          cases b <;> simp only [if_true, ite_self, Bool.false_eq_true, if_false] <;> (repeat' split) <;> simp_all
        · have hst : startsAt ns y2 f = false := by
            unfold startsAt
            rw [decide_eq_false_iff_not]
            intro h
            exact hin ⟨h.1, h.2.1⟩
          unfold entR
          simp only [hst]
          by_cases h0 : 0 ≤ y2
          · have h1 : ¬ y2 < (ns.length : Int) := fun h => hin ⟨h0, h⟩
            simp only [go_sem, Nat.reduceBEq, Nat.reduceAdd, Nat.reduceSub, Nat.reduceEqDiff, Nat.reduceLeDiff, Nat.reduceMul, rgT, z_regionT, allocs, isv?, z_step, z_stepE, okDst, wantedA, evalOp, evalV, evalS, storeAt, look, ofV, ofC, putA, clearA, lookV, lookVs, lookParts, adrOk, baseAt, baseOf, loadAt, partA, binA, unA, resOf, mkRes, envOf, List.range, List.range.loop, evalBuiltin, liveW, regOf, startE, optN, mapGet, mapPut, orZero, keyOk, cellOk, decide_eq_true_eq, Bool.not_eq_true', decide_eq_false_iff_not, ite_not, not_true_eq_false, not_false_eq_true, reduceCtorEq, and_true, true_and, and_self, envS, hl, hl2, hv, hv2, hel0, hel2, hlt', h0i, hel, hw, ih', h0, h1, hc, ge_iff_le, ite_self, if_true, Bool.false_eq_true, and_false, if_false]
          · simp only [go_sem, Nat.reduceBEq, Nat.reduceAdd, Nat.reduceSub, Nat.reduceEqDiff, Nat.reduceLeDiff, Nat.reduceMul, rgT, z_regionT, allocs, isv?, z_step, z_stepE, okDst, wantedA, evalOp, evalV, evalS, storeAt, look, ofV, ofC, putA, clearA, lookV, lookVs, lookParts, adrOk, baseAt, baseOf, loadAt, partA, binA, unA, resOf, mkRes, envOf, List.range, List.range.loop, evalBuiltin, liveW, regOf, startE, optN, mapGet, mapPut, orZero, keyOk, cellOk, decide_eq_true_eq, Bool.not_eq_true', decide_eq_false_iff_not, ite_not, not_true_eq_false, not_false_eq_true, reduceCtorEq, and_true, true_and, and_self, envS, hl, hl2, hv, hv2, hel0, hel2, hlt', h0i, hel, hw, ih', h0, hc, ge_iff_le, ite_self, if_true, Bool.false_eq_true, and_false, if_false]
      · unfold entR
        simp only [go_sem, Nat.reduceBEq, Nat.reduceAdd, Nat.reduceSub, Nat.reduceEqDiff, Nat.reduceLeDiff, Nat.reduceMul, rgT, z_regionT, allocs, isv?, z_step, z_stepE, okDst, wantedA, evalOp, evalV, evalS, storeAt, look, ofV, ofC, putA, clearA, lookV, lookVs, lookParts, adrOk, baseAt, baseOf, loadAt, partA, binA, unA, resOf, mkRes, envOf, List.range, List.range.loop, evalBuiltin, liveW, regOf, startE, optN, mapGet, mapPut, orZero, keyOk, cellOk, decide_eq_true_eq, Bool.not_eq_true', decide_eq_false_iff_not, ite_not, not_true_eq_false, not_false_eq_true, reduceCtorEq, and_true, true_and, and_self, envS, hl, hl2, hv, hv2, hel0, hel2, hlt', h0i, hel, hw, ih', hc, ite_self, if_false, Bool.false_eq_true]
  have key0 := key (es.length - lower es c) (lower es c) (by have := lower_le (es := es) (c := c); omega)
  rw [ent_eq hsrt] at key0
  obtain ⟨q, h117⟩ := c117 (σ := σ) (base := σ.length) (c := c) (b2 := 0) (b3 := 0) (b4 := 0) he hlen hsrt
  refine callL_pure (σ' := σ) (v := .bool (es.any (callB ns c f))) Tryz.func97 rfl (by kernel_rfl) rfl rfl (by simp) ?_ rfl
  rw [z_body]
  simp only [loopOf, findLoop, regOf, Option.getD, envOf, List.range, List.range.loop, go_sem, Nat.reduceBEq, Nat.reduceEqDiff, Option.some.injEq, reduceCtorEq, envS, Tryz.f97] at key0
  simp only [Tryz.f97, go_sem, Nat.reduceBEq, Nat.reduceAdd, Nat.reduceSub, Nat.reduceEqDiff, Nat.reduceLeDiff, Nat.reduceMul, rgT, z_regionT, allocs, isv?, z_step, z_stepE, okDst, wantedA, evalOp, evalV, evalS, storeAt, look, ofV, ofC, putA, clearA, lookV, lookVs, lookParts, adrOk, baseAt, baseOf, loadAt, partA, binA, unA, resOf, mkRes, envOf, List.range, List.range.loop, evalBuiltin, liveW, regOf, startE, optN, mapGet, mapPut, orZero, keyOk, cellOk, decide_eq_true_eq, Bool.not_eq_true', decide_eq_false_iff_not, ite_not, not_true_eq_false, not_false_eq_true, reduceCtorEq, and_true, true_and, and_self, hv, hv2, key0, h117]
  split
  · rename_i h; rw [h]
  · rename_i h; rw [Bool.not_eq_true] at h; rw [h]

end Go.Can
