/- Contracts: lists of numbers that grow; the seeds at a node; is a pair in a flow function? -/
import Derived.Test.YtjmljgajhkbciaaGreatIfdsCI
import Derived.Test.YtjmljgajhkbciaaGreatIfdsA2
set_option linter.unusedSimpArgs false
set_option linter.unusedVariables false
namespace Go.Can
open Go Go.Proofs

def ints (xs : List Int) : List AV := xs.map (AV.int .i64)
theorem ints_len {l : List Int} : (ints l).length = l.length := by simp [ints]

/-! A list that grows, made by a function of its own. -/
def accV (σ : St) (acc : List Int) : AV := if acc = [] then .list true 0 [] else .row 1 σ.length acc.length 0 acc.length false
def accS (σ : St) (acc : List Int) : St := if acc = [] then σ else σ ++ [.row 1 (ints acc)]
def accF (acc : List Int) : AV := if acc = [] then .list true 0 [] else .list false 1 (ints acc)

theorem acc_v {σ : St} {acc : List Int} : (Slot.val (accV σ acc)).v = some (accV σ acc) := by
  unfold accV
  split <;> rfl

theorem acc_app {σ : St} {acc : List Int} {x : Int} (h : (acc.length + 1) * 8 ≤ 140737488355328) :
    appendTo σ.length (accS σ acc) 1 8 (accV σ acc) [.int .i64 x] = some (accV σ (acc ++ [x]), accS σ (acc ++ [x])) := by
  have hne : ¬ acc ++ [x] = [] := by simp
  unfold accV accS
  rw [if_neg hne, if_neg hne]
  by_cases h0 : acc = []
  · subst h0
    rw [if_pos rfl, if_pos rfl]
    rw [append_fresh (by simp) (by omega)]
    rfl
  · rw [if_neg h0, if_neg h0]
    have hll : (ints acc).length = acc.length := ints_len
    have := append_row (base := σ.length) (id := σ.length) (σ := σ ++ [.row 1 (ints acc)]) (sz := 1) (bytes := 8) (xs := ints acc) (ys := [.int .i64 x]) (by simp) (Nat.le_refl _) (by rw [hll]; simpa using h) (by omega)
    rw [hll] at this
    rw [this]
    have e1 : ints acc ++ [AV.int .i64 x] = ints (acc ++ [x]) := by simp [ints]
    rw [List.set_append_right _ _ (Nat.le_refl _), Nat.sub_self, e1]
    simp

theorem freezeL_ints {base : Nat} {σ : St} {n : Nat} : ∀ {l : List Int}, freezeL (freeze base σ (n + 1)) (ints l) = some (ints l)
  | [] => rfl
  | x :: l => by
    have ih := freezeL_ints (base := base) (σ := σ) (n := n) (l := l)
    show freezeL (freeze base σ (n + 1)) (AV.int .i64 x :: ints l) = _
    unfold freezeL
    rw [ih]
    rfl

theorem freeze_acc {σ : St} {acc : List Int} {n : Nat} : freeze σ.length (accS σ acc) (n + 2) (accV σ acc) = some (accF acc) := by
  unfold accV accS accF
  by_cases h0 : acc = []
  · rw [if_pos h0, if_pos h0, if_pos h0]; rfl
  · rw [if_neg h0, if_neg h0, if_neg h0]
    have he : elems (σ ++ [Ob.row 1 (ints acc)]) 1 (.row 1 σ.length acc.length 0 acc.length false) = some (ints acc) := by
      have := (Sl.row (σ := σ ++ [Ob.row 1 (ints acc)]) (sz := 1) (id := σ.length) (xs := ints acc) (by simp) false).el
      rw [ints_len] at this
      exact this
    unfold freeze
    simp only [Nat.lt_irrefl, if_false]
    rw [he]
    simp only
    rw [freezeL_ints]
    rfl

theorem acc_sl {σ : St} {acc : List Int} : Sl σ 1 (accF acc) (ints acc) := by
  unfold accF
  by_cases h0 : acc = []
  · rw [if_pos h0, h0]; exact Sl.nil 0
  · rw [if_neg h0]; exact Sl.list _

/-- The facts that are seeds at a node. -/
def seedsOf (sd : List PD) (n : Int) : List Int := (sd.filter fun s => decide (s.1 = n)).map (·.2)

theorem seedsOf_snoc {pre : List PD} {y : PD} {n : Int} : seedsOf (pre ++ [y]) n = seedsOf pre n ++ if y.1 = n then [y.2] else [] := by
  unfold seedsOf
  rw [List.filter_append, List.map_append]
  by_cases h : y.1 = n <;> simp [h]
theorem seedsOf_len {l : List PD} {n : Int} : (seedsOf l n).length ≤ l.length := by
  unfold seedsOf
  rw [List.length_map]
  exact List.length_filter_le _ _

set_option maxRecDepth 100000 in
set_option maxHeartbeats 4000000 in
theorem loop57 {σ : St} {n : Int} {sd : List PD} (hlen : sd.length ≤ 1000000) : ∀ c (i : Nat), i + c = sd.length →
    loopM Tryz.prog cfI 23 σ.length (loopOf Tryz.f23 3) (envS 26 [(1, .val (.int .i64 n)), (5, .val (accV σ (seedsOf (sd.take i) n))), (9, .val (.list false 2 (sd.map pairA))), (10, .val (.int .i64 sd.length)), (11, .val (.int .i64 i))], accS σ (seedsOf (sd.take i) n)) =
    some (.exit 0, envS 26 [(5, .val (accV σ (seedsOf sd n)))], accS σ (seedsOf sd n)) := by
  have hl : lenS (.list false 2 (sd.map pairA)) = some sd.length := by simp [lenS]
  intro c
  induction c with
  | zero =>
    intro i hi
    have hi' : ¬ ((i : Int) < sd.length) := by omega
    have ht : sd.take i = sd := List.take_of_length_le (by omega)
    rw [loopM_step (by kernel_rfl), ht]
    simp only [loopOf, findLoop, regOf, Option.getD, envOf, List.range, List.range.loop, go_sem, Nat.reduceBEq, Nat.reduceEqDiff, Option.some.injEq, reduceCtorEq, envS, Tryz.f23]
    simp only [go_sem, Nat.reduceBEq, Nat.reduceAdd, Nat.reduceSub, Nat.reduceEqDiff, Nat.reduceLeDiff, Nat.reduceMul, rgT, z_regionT, allocs, isv?, z_step, z_stepE, okDst, wantedA, evalOp, evalV, evalS, storeAt, look, ofV, ofC, putA, clearA, lookV, lookVs, lookParts, adrOk, baseAt, baseOf, loadAt, partA, binA, unA, resOf, mkRes, envOf, List.range, List.range.loop, evalBuiltin, liveW, regOf, startE, optN, mapGet, mapPut, orZero, keyOk, cellOk, decide_eq_true_eq, Bool.not_eq_true', decide_eq_false_iff_not, ite_not, not_true_eq_false, not_false_eq_true, reduceCtorEq, and_true, true_and, and_self, envS, hi']
  | succ c ih =>
    intro i hi
    have hlt : i < sd.length := by omega
    obtain ⟨⟨y1, y2⟩, _, hel, hget⟩ := drop_at pairA hlt
    have hw := w_inc hlt (by omega)
    have hlt' : (i : Int) < (sd.length : Int) := by omega
    have h0i : (0 : Int) ≤ (i : Int) := by omega
    have ih' := ih (i + 1) (by omega)
    have ht : sd.take (i + 1) = sd.take i ++ [(y1, y2)] := by
      rw [List.take_add_one, hget]; rfl
    rw [ht, seedsOf_snoc] at ih'
    have hsl : (seedsOf (sd.take i) n).length ≤ 1000000 := Nat.le_trans seedsOf_len (by simp; omega)
    have happ := acc_app (σ := σ) (acc := seedsOf (sd.take i) n) (x := y2) (by omega)
    have hav := acc_v (σ := σ) (acc := seedsOf (sd.take i) n)
    rw [loopM_step (by kernel_rfl)]
    simp only [loopOf, findLoop, regOf, Option.getD, envOf, List.range, List.range.loop, go_sem, Nat.reduceBEq, Nat.reduceEqDiff, Option.some.injEq, reduceCtorEq, envS, Tryz.f23] at ih' ⊢
    replace hel : (sd.map pairA)[i]? = some (.agg [.int .i64 y1, .int .i64 y2]) := hel
    clear ih hget ht
    generalize seedsOf (sd.take i) n = acc at *
    generalize sd.map pairA = A at *
    by_cases hy : y1 = n
    · simp only [hy, if_true] at ih'
      simp (config := { maxSteps := 4000000 }) only [go_sem, Nat.reduceBEq, Nat.reduceAdd, Nat.reduceSub, Nat.reduceEqDiff, Nat.reduceLeDiff, Nat.reduceMul, rgT, z_regionT, allocs, isv?, z_step, z_stepE, okDst, wantedA, evalOp, evalV, evalS, storeAt, look, ofV, ofC, putA, clearA, lookV, lookVs, lookParts, adrOk, baseAt, baseOf, loadAt, partA, binA, unA, resOf, mkRes, envOf, List.range, List.range.loop, evalBuiltin, liveW, regOf, startE, optN, mapGet, mapPut, orZero, keyOk, cellOk, decide_eq_true_eq, Bool.not_eq_true', decide_eq_false_iff_not, ite_not, not_true_eq_false, not_false_eq_true, reduceCtorEq, and_true, true_and, and_self, envS, hlt', h0i, hl, hel, hw, hy, happ, hav, ih']
    · simp only [hy, if_false, List.append_nil] at ih'
      simp (config := { maxSteps := 4000000 }) only [go_sem, Nat.reduceBEq, Nat.reduceAdd, Nat.reduceSub, Nat.reduceEqDiff, Nat.reduceLeDiff, Nat.reduceMul, rgT, z_regionT, allocs, isv?, z_step, z_stepE, okDst, wantedA, evalOp, evalV, evalS, storeAt, look, ofV, ofC, putA, clearA, lookV, lookVs, lookParts, adrOk, baseAt, baseOf, loadAt, partA, binA, unA, resOf, mkRes, envOf, List.range, List.range.loop, evalBuiltin, liveW, regOf, startE, optN, mapGet, mapPut, orZero, keyOk, cellOk, decide_eq_true_eq, Bool.not_eq_true', decide_eq_false_iff_not, ite_not, not_true_eq_false, not_false_eq_true, reduceCtorEq, and_true, true_and, and_self, envS, hlt', h0i, hl, hel, hw, hy, hav, ih']

set_option maxRecDepth 100000 in
set_option maxHeartbeats 4000000 in
theorem c57 {σ : St} {base : Nat} {ns : List ND} {es : List ED} {m facts : Int} {fl : List (List PD)} {sd : List PD} {n : Int} (hlen : sd.length ≤ 1000000) :
    callL Tryz.prog cfI 23 [.agg (probC ns es m facts fl sd), .int .i64 n] σ base = some (accF (seedsOf sd n), σ) := by
  have hl : lenS (.list false 2 (sd.map pairA)) = some sd.length := by simp [lenS]
  have key0 := loop57 (σ := σ) (n := n) (sd := sd) hlen sd.length 0 (by omega)
  rw [show ((0 : Nat) : Int) = 0 from rfl, List.take_zero] at key0
  have e0 : accV σ (seedsOf [] n) = .list true 0 [] := rfl
  have e1 : accS σ (seedsOf [] n) = σ := rfl
  rw [e0, e1] at key0
  have hav := acc_v (σ := σ) (acc := seedsOf sd n)
  refine callL_pure (σ' := accS σ (seedsOf sd n)) (v := accV σ (seedsOf sd n)) Tryz.func23 rfl (by kernel_rfl) rfl rfl (by simp) ?_ freeze_acc
  rw [z_body]
  unfold probC
  simp only [loopOf, findLoop, regOf, Option.getD, envOf, List.range, List.range.loop, go_sem, Nat.reduceBEq, Nat.reduceEqDiff, Option.some.injEq, reduceCtorEq, envS, Tryz.f23] at key0
  generalize accV σ (seedsOf sd n) = V at *
  generalize accS σ (seedsOf sd n) = S at *
  generalize sd.map pairA = A at *
  generalize fl.map flA = B at *
  generalize es.map edgeA = D at *
  generalize ns.map nodeA = N at *
  simp (config := { maxSteps := 4000000 }) only [Tryz.f23, go_sem, Nat.reduceBEq, Nat.reduceAdd, Nat.reduceSub, Nat.reduceEqDiff, Nat.reduceLeDiff, Nat.reduceMul, rgT, z_regionT, allocs, isv?, z_step, z_stepE, okDst, wantedA, evalOp, evalV, evalS, storeAt, look, ofV, ofC, putA, clearA, lookV, lookVs, lookParts, adrOk, baseAt, baseOf, loadAt, partA, binA, unA, resOf, mkRes, envOf, List.range, List.range.loop, evalBuiltin, liveW, regOf, startE, optN, mapGet, mapPut, orZero, keyOk, cellOk, decide_eq_true_eq, Bool.not_eq_true', decide_eq_false_iff_not, ite_not, not_true_eq_false, not_false_eq_true, reduceCtorEq, and_true, true_and, and_self, hl, hav, key0]

/-! Is a pair in a flow function? -/
theorem cells2' {a b c d : Int} : cellsEq [.int .i64 a, .int .i64 b] [.int .i64 c, .int .i64 d] = some (decide ((a, b) = (c, d))) := by
  simp only [cellsEq, cellEq, if_true]
  by_cases h1 : a = c
  · subst h1
    by_cases h2 : b = d
    · subst h2; simp
    · have : (b == d) = false := by simpa using h2
      simp [this, h2]
  · have : (a == c) = false := by simpa using h1
    simp [this, h1]

def idxP (l : List PD) (x : PD) : Int := match l.findIdx? (fun y => decide (x = y)) with
  | some k => k
  | none => -1

theorem idxP_mem {l : List PD} {x : PD} : decide (0 ≤ idxP l x) = decide (x ∈ l) := by
  unfold idxP
  cases h : l.findIdx? (fun y => decide (x = y)) with
  | none =>
    simp only [List.findIdx?_eq_none_iff, decide_eq_false_iff_not] at h
    have : ¬ x ∈ l := fun hm => h x hm rfl
    simp [this]
  | some k =>
    obtain ⟨hk, h1, _⟩ := List.findIdx?_eq_some_iff_getElem.1 h
    have : x ∈ l := by simp at h1; rw [h1]; exact List.getElem_mem hk
    simp [this]

set_option maxRecDepth 100000 in
set_option maxHeartbeats 4000000 in
theorem c108 {σ : St} {base : Nat} {l : List PD} {a b : Int} (hlen : l.length < 2^63) :
    callL Tryz.prog cfI 70 [.list false 2 (l.map pairA), .agg [.int .i64 a, .int .i64 b]] σ base = some (.int .i64 (idxP l (a, b)), σ) := by
  have hl : lenS (.list false 2 (l.map pairA)) = some l.length := by simp [lenS]
  have hk := key41 (a := a) (b := b)
  unfold keyOk at hk
  have key : ∀ n (i : Nat), i + n = l.length → loopM Tryz.prog cfI 70 σ.length (loopOf Tryz.f70 2) (envS 19 [(0, .val (.list false 2 (l.map pairA))), (3, .var [.int .i64 a, .int .i64 b]), (7, .val (.int .i64 l.length)), (8, .val (.int .i64 i))], σ) =
     match (l.drop i).findIdx? (fun y => decide ((a, b) = y)) with
     | some k => some (.ret, envS 19 [(4, .val (.int .i64 (i + k : Nat)))], σ)
     | none => some (.exit 0, envS 19 [], σ) := by
    intro n
    induction n with
    | zero =>
      intro i hi
      have hi' : ¬ ((i : Int) < l.length) := by omega
      have hd : l.drop i = [] := List.drop_eq_nil_of_le (by omega)
      rw [loopM_step (by kernel_rfl), hd]
      simp only [loopOf, findLoop, regOf, Option.getD, envOf, List.range, List.range.loop, go_sem, Nat.reduceBEq, Nat.reduceEqDiff, Option.some.injEq, reduceCtorEq, envS, Tryz.f70]
      generalize l.map pairA = A at *
      simp only [go_sem, Nat.reduceBEq, Nat.reduceAdd, Nat.reduceSub, Nat.reduceEqDiff, Nat.reduceLeDiff, Nat.reduceMul, rgT, z_regionT, allocs, isv?, z_step, z_stepE, okDst, wantedA, evalOp, evalV, evalS, storeAt, look, ofV, ofC, putA, clearA, lookV, lookVs, lookParts, adrOk, baseAt, baseOf, loadAt, partA, binA, unA, resOf, mkRes, envOf, List.range, List.range.loop, evalBuiltin, liveW, regOf, startE, optN, mapGet, mapPut, orZero, keyOk, cellOk, decide_eq_true_eq, Bool.not_eq_true', decide_eq_false_iff_not, ite_not, not_true_eq_false, not_false_eq_true, reduceCtorEq, and_true, true_and, and_self, envS, hl, hi', List.findIdx?_nil]
    | succ n ih =>
      intro i hi
      have hlt : i < l.length := by omega
      obtain ⟨⟨y1, y2⟩, hd, hel, _⟩ := drop_at pairA hlt
      have hw := w_inc hlt (by omega)
      have hlt' : (i : Int) < (l.length : Int) := by omega
      have h0i : (0 : Int) ≤ (i : Int) := by omega
      have hce := cells2' (a := a) (b := b) (c := y1) (d := y2)
      have ih' := ih (i + 1) (by omega)
      rw [loopM_step (by kernel_rfl), hd, List.findIdx?_cons]
      simp only [loopOf, findLoop, regOf, Option.getD, envOf, List.range, List.range.loop, go_sem, Nat.reduceBEq, Nat.reduceEqDiff, Option.some.injEq, reduceCtorEq, envS, Tryz.f70] at ih' ⊢
      replace hel : (l.map pairA)[i]? = some (.agg [.int .i64 y1, .int .i64 y2]) := hel
      clear ih hd
      generalize l.map pairA = A at *
      generalize decide ((a, b) = (y1, y2)) = t at *
      cases t with
      | true =>
        simp (config := { maxSteps := 4000000 }) only [go_sem, Nat.reduceBEq, Nat.reduceAdd, Nat.reduceSub, Nat.reduceEqDiff, Nat.reduceLeDiff, Nat.reduceMul, rgT, z_regionT, allocs, isv?, z_step, z_stepE, okDst, wantedA, evalOp, evalV, evalS, storeAt, look, ofV, ofC, putA, clearA, lookV, lookVs, lookParts, adrOk, baseAt, baseOf, loadAt, partA, binA, unA, resOf, mkRes, envOf, List.range, List.range.loop, evalBuiltin, liveW, regOf, startE, optN, mapGet, mapPut, orZero, keyOk, cellOk, decide_eq_true_eq, Bool.not_eq_true', decide_eq_false_iff_not, ite_not, not_true_eq_false, not_false_eq_true, reduceCtorEq, and_true, true_and, and_self, envS, hl, hlt', h0i, hel, hk, hce, hw, if_true, Nat.add_zero]
      | false =>
        simp only [Bool.false_eq_true, if_false]
        cases hf : (l.drop (i + 1)).findIdx? (fun y => decide ((a, b) = y)) with
        | none =>
          rw [hf] at ih'
          simp (config := { maxSteps := 4000000 }) only [go_sem, Nat.reduceBEq, Nat.reduceAdd, Nat.reduceSub, Nat.reduceEqDiff, Nat.reduceLeDiff, Nat.reduceMul, rgT, z_regionT, allocs, isv?, z_step, z_stepE, okDst, wantedA, evalOp, evalV, evalS, storeAt, look, ofV, ofC, putA, clearA, lookV, lookVs, lookParts, adrOk, baseAt, baseOf, loadAt, partA, binA, unA, resOf, mkRes, envOf, List.range, List.range.loop, evalBuiltin, liveW, regOf, startE, optN, mapGet, mapPut, orZero, keyOk, cellOk, decide_eq_true_eq, Bool.not_eq_true', decide_eq_false_iff_not, ite_not, not_true_eq_false, not_false_eq_true, reduceCtorEq, and_true, true_and, and_self, envS, hl, hlt', h0i, hel, hk, hce, hw, ih', Option.map_none, Bool.false_eq_true, if_false]
        | some k =>
          rw [hf] at ih'
          have e : i + 1 + k = i + (k + 1) := by omega
          simp only [e] at ih'
          simp (config := { maxSteps := 4000000 }) only [go_sem, Nat.reduceBEq, Nat.reduceAdd, Nat.reduceSub, Nat.reduceEqDiff, Nat.reduceLeDiff, Nat.reduceMul, rgT, z_regionT, allocs, isv?, z_step, z_stepE, okDst, wantedA, evalOp, evalV, evalS, storeAt, look, ofV, ofC, putA, clearA, lookV, lookVs, lookParts, adrOk, baseAt, baseOf, loadAt, partA, binA, unA, resOf, mkRes, envOf, List.range, List.range.loop, evalBuiltin, liveW, regOf, startE, optN, mapGet, mapPut, orZero, keyOk, cellOk, decide_eq_true_eq, Bool.not_eq_true', decide_eq_false_iff_not, ite_not, not_true_eq_false, not_false_eq_true, reduceCtorEq, and_true, true_and, and_self, envS, hl, hlt', h0i, hel, hk, hce, hw, ih', Option.map_some, Bool.false_eq_true, if_false]
  have key0 := key l.length 0 (by omega)
  rw [show ((0 : Nat) : Int) = 0 from rfl, List.drop_zero] at key0
  refine callL_pure (σ' := σ) (v := .int .i64 (idxP l (a, b))) Tryz.func70 rfl (by kernel_rfl) rfl rfl (by simp) ?_ rfl
  rw [z_body]
  simp only [loopOf, findLoop, regOf, Option.getD, envOf, List.range, List.range.loop, go_sem, Nat.reduceBEq, Nat.reduceEqDiff, Option.some.injEq, reduceCtorEq, envS, Tryz.f70] at key0
  unfold idxP
  generalize l.map pairA = A at *
  cases hf : l.findIdx? (fun y => decide ((a, b) = y)) with
  | none =>
    rw [hf] at key0
    simp (config := { maxSteps := 4000000 }) only [Tryz.f70, go_sem, Nat.reduceBEq, Nat.reduceAdd, Nat.reduceSub, Nat.reduceEqDiff, Nat.reduceLeDiff, Nat.reduceMul, rgT, z_regionT, allocs, isv?, z_step, z_stepE, okDst, wantedA, evalOp, evalV, evalS, storeAt, look, ofV, ofC, putA, clearA, lookV, lookVs, lookParts, adrOk, baseAt, baseOf, loadAt, partA, binA, unA, resOf, mkRes, envOf, List.range, List.range.loop, evalBuiltin, liveW, regOf, startE, optN, mapGet, mapPut, orZero, keyOk, cellOk, decide_eq_true_eq, Bool.not_eq_true', decide_eq_false_iff_not, ite_not, not_true_eq_false, not_false_eq_true, reduceCtorEq, and_true, true_and, and_self, hl, key0]
  | some k =>
    rw [hf] at key0
    simp (config := { maxSteps := 4000000 }) only [Tryz.f70, go_sem, Nat.reduceBEq, Nat.reduceAdd, Nat.reduceSub, Nat.reduceEqDiff, Nat.reduceLeDiff, Nat.reduceMul, rgT, z_regionT, allocs, isv?, z_step, z_stepE, okDst, wantedA, evalOp, evalV, evalS, storeAt, look, ofV, ofC, putA, clearA, lookV, lookVs, lookParts, adrOk, baseAt, baseOf, loadAt, partA, binA, unA, resOf, mkRes, envOf, List.range, List.range.loop, evalBuiltin, liveW, regOf, startE, optN, mapGet, mapPut, orZero, keyOk, cellOk, decide_eq_true_eq, Bool.not_eq_true', decide_eq_false_iff_not, ite_not, not_true_eq_false, not_false_eq_true, reduceCtorEq, and_true, true_and, and_self, hl, key0, Nat.zero_add]

set_option maxRecDepth 100000 in
set_option maxHeartbeats 4000000 in
theorem c86 {σ : St} {base : Nat} {l : List PD} {a b : Int} (hlen : l.length < 2^63) :
    callL Tryz.prog cfI 44 [.list false 2 (l.map pairA), .agg [.int .i64 a, .int .i64 b]] σ base = some (.bool (decide ((a, b) ∈ l)), σ) := by
  have h := fun b' => c108 (σ := σ) (base := b') (a := a) (b := b) hlen
  refine callL_pure (σ' := σ) (v := .bool (decide ((a, b) ∈ l))) Tryz.func44 rfl (by kernel_rfl) rfl rfl (by simp) ?_ rfl
  rw [z_body, ← idxP_mem]
  generalize l.map pairA = A at *
  generalize idxP l (a, b) = q at *
  by_cases hq : 0 ≤ q
  · simp (config := { maxSteps := 4000000 }) only [Tryz.f44, go_sem, Nat.reduceBEq, Nat.reduceAdd, Nat.reduceSub, Nat.reduceEqDiff, Nat.reduceLeDiff, Nat.reduceMul, rgT, z_regionT, allocs, isv?, z_step, z_stepE, okDst, wantedA, evalOp, evalV, evalS, storeAt, look, ofV, ofC, putA, clearA, lookV, lookVs, lookParts, adrOk, baseAt, baseOf, loadAt, partA, binA, unA, resOf, mkRes, envOf, List.range, List.range.loop, evalBuiltin, liveW, regOf, startE, optN, mapGet, mapPut, orZero, keyOk, cellOk, decide_eq_true_eq, Bool.not_eq_true', decide_eq_false_iff_not, ite_not, not_true_eq_false, not_false_eq_true, reduceCtorEq, and_true, true_and, and_self, ge_iff_le, h, hq, decide_true]
  · simp (config := { maxSteps := 4000000 }) only [Tryz.f44, go_sem, Nat.reduceBEq, Nat.reduceAdd, Nat.reduceSub, Nat.reduceEqDiff, Nat.reduceLeDiff, Nat.reduceMul, rgT, z_regionT, allocs, isv?, z_step, z_stepE, okDst, wantedA, evalOp, evalV, evalS, storeAt, look, ofV, ofC, putA, clearA, lookV, lookVs, lookParts, adrOk, baseAt, baseOf, loadAt, partA, binA, unA, resOf, mkRes, envOf, List.range, List.range.loop, evalBuiltin, liveW, regOf, startE, optN, mapGet, mapPut, orZero, keyOk, cellOk, decide_eq_true_eq, Bool.not_eq_true', decide_eq_false_iff_not, ite_not, not_true_eq_false, not_false_eq_true, reduceCtorEq, and_true, true_and, and_self, ge_iff_le, h, hq, decide_false]

end Go.Can
