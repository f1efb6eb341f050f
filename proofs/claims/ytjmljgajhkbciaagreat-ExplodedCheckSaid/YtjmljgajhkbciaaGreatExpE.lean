/- Contracts: exploded.Check of a trail. -/
import Derived.Test.YtjmljgajhkbciaaGreatExpD
set_option linter.unusedSimpArgs false
set_option linter.unusedVariables false
namespace Go.Can
open Go Go.Proofs

/-- A trail: edges and facts. -/
def trailC (ed fc : List Int) : List AV := [.list false 1 (ints ed), .list false 1 (ints fc)]

theorem path_in {es : List ED} : ∀ {path : List Int} {node : Int} {st : List Int}, pathErr es node st path = 0 → ∀ k ∈ path, 0 ≤ k ∧ k < es.length
  | [], _, _, _, k, hk => by simp at hk
  | x :: r, node, st, h, k, hk => by
    unfold pathErr at h
    by_cases a1 : x < 0 ∨ x ≥ es.length
    · rw [if_pos a1] at h; exact absurd h (by decide)
    rw [if_neg a1] at h
    by_cases a2 : (eAt es x.toNat).1 ≠ node
    · rw [if_pos a2] at h; exact absurd h (by decide)
    rw [if_neg a2] at h
    by_cases a3 : allowsB st (eAt es x.toNat) = false
    · rw [if_pos a3] at h; exact absurd h (by decide)
    rw [if_neg a3] at h
    rcases List.mem_cons.1 hk with rfl | hk
    · omega
    · exact path_in h k hk

def factErr (facts : Int) (fc : List Int) (i : Nat) : Int := if fc.getD i 0 < 0 ∨ fc.getD i 0 ≥ facts then 4 else 0
def linkErr (es : List ED) (fl : List (List PD)) (sd : List PD) (ed fc : List Int) (i : Nat) : Int := if linkB es fl sd (ed.getD i 0).toNat (fc.getD i 0) (fc.getD (i + 1) 0) = true then 0 else 1

def trailErr (ns : List ND) (es : List ED) (m facts : Int) (fl : List (List PD)) (sd : List PD) (ed fc : List Int) : Int :=
  if checkErr ns es m facts fl sd ≠ 0 then checkErr ns es m facts fl sd
  else if (fc.length : Int) ≠ (ed.length : Int) + 1 then 20
  else if vpathErr ns es m m ed ≠ 0 then vpathErr ns es m m ed
  else if firstE (factErr facts fc) fc.length 0 ≠ 0 then firstE (factErr facts fc) fc.length 0
  else if ¬ fc.getD 0 0 = 0 ∧ ¬ fc.getD 0 0 ∈ seedsOf sd m then 1
  else firstE (linkErr es fl sd ed fc) ed.length 0

set_option maxRecDepth 100000 in
set_option maxHeartbeats 8000000 in
theorem loop37a {σ : St} {ns : List ND} {es : List ED} {m facts : Int} {fl : List (List PD)} {sd : List PD} {ed fc : List Int} (hlen : fc.length < 2^63) : ∀ c (i : Nat), i + c = fc.length →
    loopM Tryz.prog cfI 11 σ.length (loopOf Tryz.f11 10) (envS 93 [(2, .var (probC ns es m facts fl sd)), (3, .var (trailC ed fc)), (36, .val (.list false 1 (ints fc))), (37, .val (.int .i64 fc.length)), (38, .val (.int .i64 i))], σ) =
    if firstE (factErr facts fc) c i = 0 then some (.exit 0, envS 93 [(2, .var (probC ns es m facts fl sd)), (3, .var (trailC ed fc))], σ) else some (.ret, envS 93 [(4, .val (.int .i64 (firstE (factErr facts fc) c i)))], σ) := by
  have hl : lenS (.list false 1 (ints fc)) = some fc.length := by simp [lenS, ints_len]
  intro c
  induction c with
  | zero =>
    intro i hi
    have hi' : ¬ ((i : Int) < fc.length) := by omega
    rw [loopM_step (by kernel_rfl)]
    simp only [loopOf, findLoop, regOf, Option.getD, envOf, List.range, List.range.loop, go_sem, Nat.reduceBEq, Nat.reduceEqDiff, Option.some.injEq, reduceCtorEq, envS, Tryz.f11, probC, trailC]
    simp only [go_sem, Nat.reduceBEq, Nat.reduceAdd, Nat.reduceSub, Nat.reduceEqDiff, Nat.reduceLeDiff, Nat.reduceMul, rgT, z_regionT, allocs, isv?, z_step, z_stepE, okDst, wantedA, evalOp, evalV, evalS, storeAt, look, ofV, ofC, putA, clearA, lookV, lookVs, lookParts, adrOk, baseAt, baseOf, loadAt, partA, binA, unA, resOf, mkRes, envOf, List.range, List.range.loop, evalBuiltin, liveW, regOf, startE, optN, mapGet, mapPut, orZero, keyOk, cellOk, decide_eq_true_eq, Bool.not_eq_true', decide_eq_false_iff_not, ite_not, not_true_eq_false, not_false_eq_true, reduceCtorEq, and_true, true_and, and_self, envS, hi', firstE, if_true]
  | succ c ih =>
    intro i hi
    have hlt : i < fc.length := by omega
    have hel := ints_at hlt
    have hw := w_inc hlt (by omega)
    have h0i : (0 : Int) ≤ (i : Int) := by omega
    have hlt' : (i : Int) < (fc.length : Int) := by omega
    have ih' := ih (i + 1) (by omega)
    rw [loopM_step (by kernel_rfl)]
    simp only [loopOf, findLoop, regOf, Option.getD, envOf, List.range, List.range.loop, go_sem, Nat.reduceBEq, Nat.reduceEqDiff, Option.some.injEq, reduceCtorEq, envS, Tryz.f11, probC, trailC] at ih' ⊢
    unfold firstE
    clear ih
    have n4 : ¬ ((4 : Int) = 0) := by decide
    have hf : factErr facts fc i = if fc.getD i 0 < 0 ∨ fc.getD i 0 ≥ facts then 4 else 0 := rfl
    rw [hf]
    generalize fc.getD i 0 = y at *
    generalize ints fc = A at *
    generalize ints ed = B at *
    by_cases a1 : y < 0
    · have e : (if y < 0 ∨ y ≥ facts then (4 : Int) else 0) = 4 := if_pos (.inl a1)
      rw [e]
      simp only [n4, if_false]
      simp (config := { maxSteps := 4000000 }) only [go_sem, Nat.reduceBEq, Nat.reduceAdd, Nat.reduceSub, Nat.reduceEqDiff, Nat.reduceLeDiff, Nat.reduceMul, rgT, z_regionT, allocs, isv?, z_step, z_stepE, okDst, wantedA, evalOp, evalV, evalS, storeAt, look, ofV, ofC, putA, clearA, lookV, lookVs, lookParts, adrOk, baseAt, baseOf, loadAt, partA, binA, unA, resOf, mkRes, envOf, List.range, List.range.loop, evalBuiltin, liveW, regOf, startE, optN, mapGet, mapPut, orZero, keyOk, cellOk, decide_eq_true_eq, Bool.not_eq_true', decide_eq_false_iff_not, ite_not, not_true_eq_false, not_false_eq_true, reduceCtorEq, and_true, true_and, and_self, envS, ge_iff_le, hlt', h0i, hl, hel, hw, a1]
    by_cases a2 : facts ≤ y
    · have e : (if y < 0 ∨ y ≥ facts then (4 : Int) else 0) = 4 := if_pos (.inr a2)
      rw [e]
      simp only [n4, if_false]
      simp (config := { maxSteps := 4000000 }) only [go_sem, Nat.reduceBEq, Nat.reduceAdd, Nat.reduceSub, Nat.reduceEqDiff, Nat.reduceLeDiff, Nat.reduceMul, rgT, z_regionT, allocs, isv?, z_step, z_stepE, okDst, wantedA, evalOp, evalV, evalS, storeAt, look, ofV, ofC, putA, clearA, lookV, lookVs, lookParts, adrOk, baseAt, baseOf, loadAt, partA, binA, unA, resOf, mkRes, envOf, List.range, List.range.loop, evalBuiltin, liveW, regOf, startE, optN, mapGet, mapPut, orZero, keyOk, cellOk, decide_eq_true_eq, Bool.not_eq_true', decide_eq_false_iff_not, ite_not, not_true_eq_false, not_false_eq_true, reduceCtorEq, and_true, true_and, and_self, envS, ge_iff_le, hlt', h0i, hl, hel, hw, a1, a2]
    have e : (if y < 0 ∨ y ≥ facts then (4 : Int) else 0) = 0 := if_neg (by omega)
    rw [e, if_pos rfl]
    simp (config := { maxSteps := 4000000 }) only [go_sem, Nat.reduceBEq, Nat.reduceAdd, Nat.reduceSub, Nat.reduceEqDiff, Nat.reduceLeDiff, Nat.reduceMul, rgT, z_regionT, allocs, isv?, z_step, z_stepE, okDst, wantedA, evalOp, evalV, evalS, storeAt, look, ofV, ofC, putA, clearA, lookV, lookVs, lookParts, adrOk, baseAt, baseOf, loadAt, partA, binA, unA, resOf, mkRes, envOf, List.range, List.range.loop, evalBuiltin, liveW, regOf, startE, optN, mapGet, mapPut, orZero, keyOk, cellOk, decide_eq_true_eq, Bool.not_eq_true', decide_eq_false_iff_not, ite_not, not_true_eq_false, not_false_eq_true, reduceCtorEq, and_true, true_and, and_self, envS, ge_iff_le, hlt', h0i, hl, hel, hw, a1, a2, ih']

set_option maxRecDepth 100000 in
set_option maxHeartbeats 8000000 in
theorem loop37b {σ : St} {ns : List ND} {es : List ED} {m facts : Int} {fl : List (List PD)} {sd : List PD} {ed fc : List Int} (hlen : ed.length < 2^62) (hfc : fc.length = ed.length + 1) (hin : ∀ k ∈ ed, 0 ≤ k ∧ k < es.length) (hfe : fl.length = es.length) (hsd : sd.length ≤ 1000000) (hfl : ∀ l ∈ fl, l.length < 2^63) : ∀ c (i : Nat), i + c = ed.length →
    loopM Tryz.prog cfI 11 σ.length (loopOf Tryz.f11 18) (envS 93 [(2, .var (probC ns es m facts fl sd)), (3, .var (trailC ed fc)), (70, .val (.list false 1 (ints ed))), (71, .val (.int .i64 ed.length)), (72, .val (.int .i64 i))], σ) =
    if firstE (linkErr es fl sd ed fc) c i = 0 then some (.exit 2, envS 93 [], σ) else some (.ret, envS 93 [(4, .val (.int .i64 (firstE (linkErr es fl sd ed fc) c i)))], σ) := by
  have hl : lenS (.list false 1 (ints ed)) = some ed.length := by simp [lenS, ints_len]
  have hl2 : lenS (.list false 1 (ints fc)) = some fc.length := by simp [lenS, ints_len]
  intro c
  induction c with
  | zero =>
    intro i hi
    have hi' : ¬ ((i : Int) < ed.length) := by omega
    rw [loopM_step (by kernel_rfl)]
    simp only [loopOf, findLoop, regOf, Option.getD, envOf, List.range, List.range.loop, go_sem, Nat.reduceBEq, Nat.reduceEqDiff, Option.some.injEq, reduceCtorEq, envS, Tryz.f11, probC, trailC]
    simp only [go_sem, Nat.reduceBEq, Nat.reduceAdd, Nat.reduceSub, Nat.reduceEqDiff, Nat.reduceLeDiff, Nat.reduceMul, rgT, z_regionT, allocs, isv?, z_step, z_stepE, okDst, wantedA, evalOp, evalV, evalS, storeAt, look, ofV, ofC, putA, clearA, lookV, lookVs, lookParts, adrOk, baseAt, baseOf, loadAt, partA, binA, unA, resOf, mkRes, envOf, List.range, List.range.loop, evalBuiltin, liveW, regOf, startE, optN, mapGet, mapPut, orZero, keyOk, cellOk, decide_eq_true_eq, Bool.not_eq_true', decide_eq_false_iff_not, ite_not, not_true_eq_false, not_false_eq_true, reduceCtorEq, and_true, true_and, and_self, envS, hi', firstE, if_true]
  | succ c ih =>
    intro i hi
    have hlt : i < ed.length := by omega
    have hel := ints_at hlt
    have hf1 := ints_at (l := fc) (i := i) (by omega)
    have hf2 := ints_at (l := fc) (i := i + 1) (by omega)
    have hw := w_inc hlt (by omega)
    have h0i : (0 : Int) ≤ (i : Int) := by omega
    have hlt' : (i : Int) < (ed.length : Int) := by omega
    have b1 : (i : Int) < (fc.length : Int) := by omega
    have b2 : (0 : Int) ≤ ((i + 1 : Nat) : Int) := by omega
    have b3 : ((i + 1 : Nat) : Int) < (fc.length : Int) := by omega
    have ih' := ih (i + 1) (by omega)
    have hmem : ed.getD i 0 ∈ ed := by
      have : ed.getD i 0 = ed[i] := by simp [hlt]
      rw [this]; exact List.getElem_mem hlt
    obtain ⟨k1, k2⟩ := hin _ hmem
    obtain ⟨k, hk⟩ : ∃ k : Nat, ed.getD i 0 = k := ⟨(ed.getD i 0).toNat, by omega⟩
    have hkf : k < fl.length := by omega
    have hflk : (fl.getD k []).length < 2^63 := by
      have : fl.getD k [] = fl[k] := by simp [hkf]
      rw [this]; exact hfl _ (List.getElem_mem hkf)
    have h58 := fun b => c58 (σ := σ) (base := b) (ns := ns) (es := es) (m := m) (facts := facts) (fl := fl) (sd := sd) (k := k) (a := fc.getD i 0) (b := fc.getD (i + 1) 0) hsd hkf (by omega) hflk
    have hle : linkErr es fl sd ed fc i = if linkB es fl sd k (fc.getD i 0) (fc.getD (i + 1) 0) = true then 0 else 1 := by unfold linkErr; rw [hk, Int.toNat_natCast]
    rw [loopM_step (by kernel_rfl)]
    simp only [loopOf, findLoop, regOf, Option.getD, envOf, List.range, List.range.loop, go_sem, Nat.reduceBEq, Nat.reduceEqDiff, Option.some.injEq, reduceCtorEq, envS, Tryz.f11, probC, trailC] at ih' h58 ⊢
    unfold firstE
    rw [hle]
    rw [hk] at hel
    clear ih hmem hin hk hfl hle
    have n1 : ¬ ((1 : Int) = 0) := by decide
    generalize fc.getD i 0 = y1 at *
    generalize fc.getD (i + 1) 0 = y2 at *
    generalize linkB es fl sd k y1 y2 = t at *
    generalize ints fc = A at *
    generalize ints ed = B at *
    cases t with
    | true =>
      simp only [if_true]
      simp (config := { maxSteps := 4000000 }) only [go_sem, Nat.reduceBEq, Nat.reduceAdd, Nat.reduceSub, Nat.reduceEqDiff, Nat.reduceLeDiff, Nat.reduceMul, rgT, z_regionT, allocs, isv?, z_step, z_stepE, okDst, wantedA, evalOp, evalV, evalS, storeAt, look, ofV, ofC, putA, clearA, lookV, lookVs, lookParts, adrOk, baseAt, baseOf, loadAt, partA, binA, unA, resOf, mkRes, envOf, List.range, List.range.loop, evalBuiltin, liveW, regOf, startE, optN, mapGet, mapPut, orZero, keyOk, cellOk, decide_eq_true_eq, Bool.not_eq_true', decide_eq_false_iff_not, ite_not, not_true_eq_false, not_false_eq_true, reduceCtorEq, and_true, true_and, and_self, envS, hlt', h0i, hl, hl2, hel, hf1, hf2, b1, b2, b3, hw, h58, ih']
    | false =>
      simp only [Bool.false_eq_true, n1, if_false]
      simp (config := { maxSteps := 4000000 }) only [go_sem, Nat.reduceBEq, Nat.reduceAdd, Nat.reduceSub, Nat.reduceEqDiff, Nat.reduceLeDiff, Nat.reduceMul, rgT, z_regionT, allocs, isv?, z_step, z_stepE, okDst, wantedA, evalOp, evalV, evalS, storeAt, look, ofV, ofC, putA, clearA, lookV, lookVs, lookParts, adrOk, baseAt, baseOf, loadAt, partA, binA, unA, resOf, mkRes, envOf, List.range, List.range.loop, evalBuiltin, liveW, regOf, startE, optN, mapGet, mapPut, orZero, keyOk, cellOk, decide_eq_true_eq, Bool.not_eq_true', decide_eq_false_iff_not, ite_not, not_true_eq_false, not_false_eq_true, reduceCtorEq, and_true, true_and, and_self, envS, hlt', h0i, hl, hl2, hel, hf1, hf2, b1, b2, b3, hw, h58]

theorem check_flows {ns : List ND} {es : List ED} {m facts : Int} {fl : List (List PD)} {sd : List PD} (h : checkErr ns es m facts fl sd = 0) : fl.length = es.length ∧ ∀ l ∈ fl, l.length ≤ 8192 := by
  unfold checkErr at h
  by_cases a1 : superErr ns es m = 0
  · rw [if_neg (fun k => k a1)] at h
    by_cases a2 : facts < 1 ∨ facts > 1024
    · rw [if_pos a2] at h; exact absurd h (by decide)
    rw [if_neg a2] at h
    by_cases a3 : (fl.length : Int) ≠ es.length
    · rw [if_pos a3] at h; exact absurd h (by decide)
    rw [if_neg a3] at h
    by_cases a4 : firstE (fun i => flowErr (fl.getD i []) facts) fl.length 0 = 0
    · refine ⟨by omega, fun l hl => ?_⟩
      obtain ⟨k, hk, rfl⟩ := List.getElem_of_mem hl
      have := firstE_zero a4 k (by omega) (by omega)
      have e : fl.getD k [] = fl[k] := by simp [hk]
      simp only [e] at this
      unfold flowErr at this
      by_cases b1 : ¬ (1 ≤ facts ∧ facts ≤ 1024)
      · rw [if_pos b1] at this; exact absurd this (by decide)
      rw [if_neg b1] at this
      by_cases b2 : fl[k].length > 8192
      · rw [if_pos b2] at this; exact absurd this (by decide)
      · omega
    · rw [if_pos a4] at h; exact absurd h a4
  · rw [if_pos a1] at h; exact absurd h a1

theorem vpath_in {ns : List ND} {es : List ED} {m n : Int} {path : List Int} (h : vpathErr ns es m n path = 0) : path.length ≤ 4096 ∧ ∀ k ∈ path, 0 ≤ k ∧ k < es.length := by
  unfold vpathErr at h
  by_cases a1 : beginErr ns es m n = 0
  · rw [if_neg (fun k => k a1)] at h
    by_cases a2 : (path.length : Int) > 4096
    · rw [if_pos a2] at h; exact absurd h (by decide)
    rw [if_neg a2] at h
    exact ⟨by omega, path_in h⟩
  · rw [if_pos a1] at h; exact absurd h a1

set_option maxRecDepth 100000 in
set_option maxHeartbeats 8000000 in
theorem c37 {σ : St} {base : Nat} {ns : List ND} {es : List ED} {m facts : Int} {fl : List (List PD)} {sd : List PD} {ed fc : List Int} (hfl : fl.length < 2^63) (hsd : sd.length ≤ 1000000) (hed : ed.length < 2^62) (hfc : fc.length < 2^63) :
    callL Tryz.prog cfI 11 [.agg (probC ns es m facts fl sd), .agg (trailC ed fc)] σ base = some (.int .i64 (trailErr ns es m facts fl sd ed fc), σ) := by
  have hl : lenS (.list false 1 (ints ed)) = some ed.length := by simp [lenS, ints_len]
  have hl2 : lenS (.list false 1 (ints fc)) = some fc.length := by simp [lenS, ints_len]
  have h7 := fun b => c7 (σ := σ) (base := b) (ns := ns) (es := es) (m := m) (facts := facts) (fl := fl) (sd := sd) hfl (by omega)
  have h55 := fun b => c55 (σ := σ) (base := b) (ns := ns) (es := es) (m := m) (n := m) (fp := false) (path := ed) (by omega)
  have k1 := loop37a (σ := σ) (ns := ns) (es := es) (m := m) (facts := facts) (fl := fl) (sd := sd) (ed := ed) (fc := fc) hfc fc.length 0 (by omega)
  have hwl : IntKind.i64.wrap ((ed.length : Int) + 1) = (ed.length : Int) + 1 := by rw [wrap_i64] <;> omega
  rw [show ((0 : Nat) : Int) = 0 from rfl] at k1
  refine callL_pure (σ' := σ) (v := .int .i64 (trailErr ns es m facts fl sd ed fc)) Tryz.func11 rfl (by kernel_rfl) rfl rfl (by simp) ?_ rfl
  rw [z_body]
  simp only [loopOf, findLoop, regOf, Option.getD, envOf, List.range, List.range.loop, go_sem, Nat.reduceBEq, Nat.reduceEqDiff, Option.some.injEq, reduceCtorEq, envS, Tryz.f11, probC, trailC] at k1
  unfold trailErr
  by_cases a1 : checkErr ns es m facts fl sd = 0
  · rw [if_neg (fun h => h a1)]
    obtain ⟨q1, q2⟩ := check_flows a1
    rw [a1] at h7
    by_cases a2 : (fc.length : Int) = (ed.length : Int) + 1
    · have a2' : (((fc.length : Int) = (ed.length : Int) + 1) = True) := eq_true a2
      rw [if_neg (fun h => h a2)]
      by_cases a3 : vpathErr ns es m m ed = 0
      · rw [if_neg (fun h => h a3)]
        obtain ⟨q3, q4⟩ := vpath_in a3
        rw [a3] at h55
        by_cases a4 : firstE (factErr facts fc) fc.length 0 = 0
        · rw [if_neg (fun h => h a4)]
          rw [if_pos a4] at k1
          have h57 := fun b' => c57 (σ := σ) (base := b') (ns := ns) (es := es) (m := m) (facts := facts) (fl := fl) (sd := sd) (n := m) hsd
          have hsl : (seedsOf sd m).length ≤ 1000000 := Nat.le_trans seedsOf_len hsd
          have h27 := fun b' => c27 (σ := σ) (base := b') (x := fc.getD 0 0) (acc_sl (σ := σ) (acc := seedsOf sd m)) (by omega)
          have hav := (acc_sl (σ := σ) (acc := seedsOf sd m)).v
          have hf0 := ints_at (l := fc) (i := 0) (by omega)
          have z1 : ((0 : Int) ≤ 0) = True := by simp
          have z2 : (0 : Int) < (fc.length : Int) := by omega
          have z3 : (0 : Int).toNat = 0 := rfl
          have k2 := loop37b (σ := σ) (ns := ns) (es := es) (m := m) (facts := facts) (fl := fl) (sd := sd) (ed := ed) (fc := fc) hed (by omega) q4 q1 hsd (fun l hl => by have := q2 l hl; omega) ed.length 0 (by omega)
          rw [show ((0 : Nat) : Int) = 0 from rfl] at k2
          simp only [loopOf, findLoop, regOf, Option.getD, envOf, List.range, List.range.loop, go_sem, Nat.reduceBEq, Nat.reduceEqDiff, Option.some.injEq, reduceCtorEq, envS, Tryz.f11, probC, trailC] at k2
          unfold probC trailC superA at *
          generalize firstE (linkErr es fl sd ed fc) ed.length 0 = q at *
          clear q1 q2 q3 q4 a1 a2 a3 a4
          by_cases a5 : fc.getD 0 0 = 0
          · rw [if_neg (fun h => h.1 a5)]
            rw [a5] at hf0
            clear h27
            generalize accF (seedsOf sd m) = V at *
            generalize ns.map nodeA = N at *
            generalize es.map edgeA = E at *
            generalize sd.map pairA = D at *
            generalize fl.map flA = F at *
            generalize ints ed = B at *
            generalize ints fc = A at *
            by_cases a6 : q = 0
            · subst a6
              simp only [if_true] at k2
              simp (config := { maxSteps := 4000000 }) only [Tryz.f11, go_sem, Nat.reduceBEq, Nat.reduceAdd, Nat.reduceSub, Nat.reduceEqDiff, Nat.reduceLeDiff, Nat.reduceMul, rgT, z_regionT, allocs, isv?, z_step, z_stepE, okDst, wantedA, evalOp, evalV, evalS, storeAt, look, ofV, ofC, putA, clearA, lookV, lookVs, lookParts, adrOk, baseAt, baseOf, loadAt, partA, binA, unA, resOf, mkRes, envOf, List.range, List.range.loop, evalBuiltin, liveW, regOf, startE, optN, mapGet, mapPut, orZero, keyOk, cellOk, decide_eq_true_eq, Bool.not_eq_true', decide_eq_false_iff_not, ite_not, not_true_eq_false, not_false_eq_true, reduceCtorEq, and_true, true_and, and_self, Int.reduceEq, ne_eq, hl, hl2, h7, hwl, a2', h55, k1, hf0, z1, z2, z3, k2]
            · simp only [a6, if_false] at k2
              simp (config := { maxSteps := 4000000 }) only [Tryz.f11, go_sem, Nat.reduceBEq, Nat.reduceAdd, Nat.reduceSub, Nat.reduceEqDiff, Nat.reduceLeDiff, Nat.reduceMul, rgT, z_regionT, allocs, isv?, z_step, z_stepE, okDst, wantedA, evalOp, evalV, evalS, storeAt, look, ofV, ofC, putA, clearA, lookV, lookVs, lookParts, adrOk, baseAt, baseOf, loadAt, partA, binA, unA, resOf, mkRes, envOf, List.range, List.range.loop, evalBuiltin, liveW, regOf, startE, optN, mapGet, mapPut, orZero, keyOk, cellOk, decide_eq_true_eq, Bool.not_eq_true', decide_eq_false_iff_not, ite_not, not_true_eq_false, not_false_eq_true, reduceCtorEq, and_true, true_and, and_self, Int.reduceEq, ne_eq, hl, hl2, h7, hwl, a2', h55, k1, hf0, z1, z2, z3, k2]
          · by_cases a7 : fc.getD 0 0 ∈ seedsOf sd m
            · rw [if_neg (fun h => h.2 a7)]
              rw [decide_eq_true a7] at h27
              clear a7
              generalize fc.getD 0 0 = y at *
              generalize accF (seedsOf sd m) = V at *
              generalize ns.map nodeA = N at *
              generalize es.map edgeA = E at *
              generalize sd.map pairA = D at *
              generalize fl.map flA = F at *
              generalize ints ed = B at *
              generalize ints fc = A at *
              by_cases a6 : q = 0
              · subst a6
                simp only [if_true] at k2
                simp (config := { maxSteps := 4000000 }) only [Tryz.f11, go_sem, Nat.reduceBEq, Nat.reduceAdd, Nat.reduceSub, Nat.reduceEqDiff, Nat.reduceLeDiff, Nat.reduceMul, rgT, z_regionT, allocs, isv?, z_step, z_stepE, okDst, wantedA, evalOp, evalV, evalS, storeAt, look, ofV, ofC, putA, clearA, lookV, lookVs, lookParts, adrOk, baseAt, baseOf, loadAt, partA, binA, unA, resOf, mkRes, envOf, List.range, List.range.loop, evalBuiltin, liveW, regOf, startE, optN, mapGet, mapPut, orZero, keyOk, cellOk, decide_eq_true_eq, Bool.not_eq_true', decide_eq_false_iff_not, ite_not, not_true_eq_false, not_false_eq_true, reduceCtorEq, and_true, true_and, and_self, Int.reduceEq, ne_eq, hl, hl2, h7, hwl, a2', h55, k1, hf0, z1, z2, z3, a5, h57, hav, h27, k2]
              · simp only [a6, if_false] at k2
                simp (config := { maxSteps := 4000000 }) only [Tryz.f11, go_sem, Nat.reduceBEq, Nat.reduceAdd, Nat.reduceSub, Nat.reduceEqDiff, Nat.reduceLeDiff, Nat.reduceMul, rgT, z_regionT, allocs, isv?, z_step, z_stepE, okDst, wantedA, evalOp, evalV, evalS, storeAt, look, ofV, ofC, putA, clearA, lookV, lookVs, lookParts, adrOk, baseAt, baseOf, loadAt, partA, binA, unA, resOf, mkRes, envOf, List.range, List.range.loop, evalBuiltin, liveW, regOf, startE, optN, mapGet, mapPut, orZero, keyOk, cellOk, decide_eq_true_eq, Bool.not_eq_true', decide_eq_false_iff_not, ite_not, not_true_eq_false, not_false_eq_true, reduceCtorEq, and_true, true_and, and_self, Int.reduceEq, ne_eq, hl, hl2, h7, hwl, a2', h55, k1, hf0, z1, z2, z3, a5, h57, hav, h27, k2]
            · rw [if_pos ⟨a5, a7⟩]
              rw [decide_eq_false a7] at h27
              clear a7 k2
              generalize fc.getD 0 0 = y at *
              generalize accF (seedsOf sd m) = V at *
              generalize ns.map nodeA = N at *
              generalize es.map edgeA = E at *
              generalize sd.map pairA = D at *
              generalize fl.map flA = F at *
              generalize ints ed = B at *
              generalize ints fc = A at *
              simp (config := { maxSteps := 4000000 }) only [Tryz.f11, go_sem, Nat.reduceBEq, Nat.reduceAdd, Nat.reduceSub, Nat.reduceEqDiff, Nat.reduceLeDiff, Nat.reduceMul, rgT, z_regionT, allocs, isv?, z_step, z_stepE, okDst, wantedA, evalOp, evalV, evalS, storeAt, look, ofV, ofC, putA, clearA, lookV, lookVs, lookParts, adrOk, baseAt, baseOf, loadAt, partA, binA, unA, resOf, mkRes, envOf, List.range, List.range.loop, evalBuiltin, liveW, regOf, startE, optN, mapGet, mapPut, orZero, keyOk, cellOk, decide_eq_true_eq, Bool.not_eq_true', decide_eq_false_iff_not, ite_not, not_true_eq_false, not_false_eq_true, reduceCtorEq, and_true, true_and, and_self, Int.reduceEq, ne_eq, hl, hl2, h7, hwl, a2', h55, k1, hf0, z1, z2, z3, a5, h57, hav, h27]
        · rw [if_pos a4]
          rw [if_neg a4] at k1
          unfold probC trailC superA at *
          generalize firstE (factErr facts fc) fc.length 0 = q at *
          clear q1 q2 q3 q4 a1 a2 a3
          generalize ns.map nodeA = N at *
          generalize es.map edgeA = E at *
          generalize sd.map pairA = D at *
          generalize fl.map flA = F at *
          generalize ints ed = B at *
          generalize ints fc = A at *
          simp (config := { maxSteps := 4000000 }) only [Tryz.f11, go_sem, Nat.reduceBEq, Nat.reduceAdd, Nat.reduceSub, Nat.reduceEqDiff, Nat.reduceLeDiff, Nat.reduceMul, rgT, z_regionT, allocs, isv?, z_step, z_stepE, okDst, wantedA, evalOp, evalV, evalS, storeAt, look, ofV, ofC, putA, clearA, lookV, lookVs, lookParts, adrOk, baseAt, baseOf, loadAt, partA, binA, unA, resOf, mkRes, envOf, List.range, List.range.loop, evalBuiltin, liveW, regOf, startE, optN, mapGet, mapPut, orZero, keyOk, cellOk, decide_eq_true_eq, Bool.not_eq_true', decide_eq_false_iff_not, ite_not, not_true_eq_false, not_false_eq_true, reduceCtorEq, and_true, true_and, and_self, Int.reduceEq, ne_eq, hl, hl2, h7, hwl, a2', h55, k1]
      · rw [if_pos a3]
        clear k1 q1 q2 a1 a2
        unfold probC trailC superA at *
        generalize vpathErr ns es m m ed = q at *
        generalize ns.map nodeA = N at *
        generalize es.map edgeA = E at *
        generalize sd.map pairA = D at *
        generalize fl.map flA = F at *
        generalize ints ed = B at *
        generalize ints fc = A at *
        simp (config := { maxSteps := 4000000 }) only [Tryz.f11, go_sem, Nat.reduceBEq, Nat.reduceAdd, Nat.reduceSub, Nat.reduceEqDiff, Nat.reduceLeDiff, Nat.reduceMul, rgT, z_regionT, allocs, isv?, z_step, z_stepE, okDst, wantedA, evalOp, evalV, evalS, storeAt, look, ofV, ofC, putA, clearA, lookV, lookVs, lookParts, adrOk, baseAt, baseOf, loadAt, partA, binA, unA, resOf, mkRes, envOf, List.range, List.range.loop, evalBuiltin, liveW, regOf, startE, optN, mapGet, mapPut, orZero, keyOk, cellOk, decide_eq_true_eq, Bool.not_eq_true', decide_eq_false_iff_not, ite_not, not_true_eq_false, not_false_eq_true, reduceCtorEq, and_true, true_and, and_self, Int.reduceEq, ne_eq, hl, hl2, h7, hwl, a2', h55, a3]
    · have a2' : (((fc.length : Int) = (ed.length : Int) + 1) = False) := eq_false a2
      rw [if_pos a2]
      clear k1 q1 q2 a1 a2 h55
      unfold probC trailC at *
      generalize ns.map nodeA = N at *
      generalize es.map edgeA = E at *
      generalize sd.map pairA = D at *
      generalize fl.map flA = F at *
      generalize ints ed = B at *
      generalize ints fc = A at *
      simp (config := { maxSteps := 4000000 }) only [Tryz.f11, go_sem, Nat.reduceBEq, Nat.reduceAdd, Nat.reduceSub, Nat.reduceEqDiff, Nat.reduceLeDiff, Nat.reduceMul, rgT, z_regionT, allocs, isv?, z_step, z_stepE, okDst, wantedA, evalOp, evalV, evalS, storeAt, look, ofV, ofC, putA, clearA, lookV, lookVs, lookParts, adrOk, baseAt, baseOf, loadAt, partA, binA, unA, resOf, mkRes, envOf, List.range, List.range.loop, evalBuiltin, liveW, regOf, startE, optN, mapGet, mapPut, orZero, keyOk, cellOk, decide_eq_true_eq, Bool.not_eq_true', decide_eq_false_iff_not, ite_not, not_true_eq_false, not_false_eq_true, reduceCtorEq, and_true, true_and, and_self, Int.reduceEq, ne_eq, hl, hl2, h7, hwl, a2']
  · rw [if_pos a1]
    clear k1 h55
    unfold probC trailC at *
    generalize checkErr ns es m facts fl sd = q at *
    generalize ns.map nodeA = N at *
    generalize es.map edgeA = E at *
    generalize sd.map pairA = D at *
    generalize fl.map flA = F at *
    generalize ints ed = B at *
    generalize ints fc = A at *
    simp (config := { maxSteps := 4000000 }) only [Tryz.f11, go_sem, Nat.reduceBEq, Nat.reduceAdd, Nat.reduceSub, Nat.reduceEqDiff, Nat.reduceLeDiff, Nat.reduceMul, rgT, z_regionT, allocs, isv?, z_step, z_stepE, okDst, wantedA, evalOp, evalV, evalS, storeAt, look, ofV, ofC, putA, clearA, lookV, lookVs, lookParts, adrOk, baseAt, baseOf, loadAt, partA, binA, unA, resOf, mkRes, envOf, List.range, List.range.loop, evalBuiltin, liveW, regOf, startE, optN, mapGet, mapPut, orZero, keyOk, cellOk, decide_eq_true_eq, Bool.not_eq_true', decide_eq_false_iff_not, ite_not, not_true_eq_false, not_false_eq_true, reduceCtorEq, and_true, true_and, and_self, ne_eq, hl, hl2, h7, a1]

end Go.Can
