/- Plain: a map from functions to counts, as a list of entries. Contracts: comparisons, without the functions that stand for themselves. -/
import Derived.Test.YtjmljgajhkbciaaGreatIfdsA
import Derived.Test.YtjmljgajhkbciaaGreatIfdsP
import Derived.Test.YtjmljgajhkbciaaGreatIfdsC3
set_option linter.unusedSimpArgs false
set_option linter.unusedVariables false
namespace Go.Can
open Go Go.Proofs

def entA (e : Int × Int) : AV × AV := (.int .i64 e.1, .int .i64 e.2)
def getC (f : Int) : List (Int × Int) → Int
  | [] => 0
  | e :: l => if e.1 = f then e.2 else getC f l
def bump (f k : Int) : List (Int × Int) → List (Int × Int)
  | [] => [(f, k)]
  | e :: l => if e.1 = f then (e.1, e.2 + k) :: l else e :: bump f k l
def kindK (n : Int × Int × Int) : Int := if n.2.1 = 2 then 0 else 1
def kinds : List (Int × Int) → List (Int × Int × Int) → List (Int × Int)
  | E, [] => E
  | E, n :: l => kinds (bump n.1 (kindK n) E) l

theorem find_ent {f : Int} : ∀ {E : List (Int × Int)} {i : Nat},
    (findE (.int .i64 f) (E.map entA) i = some none ∧ getC f E = 0 ∧ ∀ k, E.map entA ++ [(.int .i64 f, .int .i64 k)] = (bump f k E).map entA) ∨
    ∃ j, findE (.int .i64 f) (E.map entA) i = some (some (i + j, .int .i64 (getC f E))) ∧ ∀ k, (E.map entA).set j (.int .i64 f, .int .i64 (getC f E + k)) = (bump f k E).map entA
  | [], i => .inl ⟨rfl, rfl, fun k => rfl⟩
  | (g, v) :: E, i => by
    by_cases h : g = f
    · subst h
      right
      refine ⟨0, ?_, fun k => ?_⟩
      · simp [entA, findE, keyEq, cellEq, getC]
      · simp [entA, bump, getC]
    · have hb : (f == g) = false := by simpa using fun e : f = g => h e.symm
      have hk : findE (.int .i64 f) (((g, v) :: E).map entA) i = findE (.int .i64 f) (E.map entA) (i + 1) := by
        simp [entA, findE, keyEq, cellEq, hb]
      have hg : getC f ((g, v) :: E) = getC f E := by simp [getC, h]
      rcases find_ent (f := f) (E := E) (i := i + 1) with ⟨h1, h2, h3⟩ | ⟨j, h1, h2⟩
      · left
        refine ⟨by rw [hk, h1], by rw [hg, h2], fun k => ?_⟩
        have := h3 k
        simp only [bump, h, if_false, List.map_cons, List.cons_append, this]
      · right
        refine ⟨j + 1, by rw [hk, h1, hg]; congr 3; omega, fun k => ?_⟩
        rw [hg]
        have := h2 k
        simp only [bump, h, if_false, List.map_cons, List.set_cons_succ, this]

theorem getC_bump {f g k : Int} : ∀ {E : List (Int × Int)}, getC g (bump f k E) = getC g E + if f = g then k else 0
  | [] => by unfold bump getC getC; split <;> simp_all [getC]
  | e :: E => by
    have ih := getC_bump (f := f) (g := g) (k := k) (E := E)
    unfold bump
    by_cases h : e.1 = f
    · rw [if_pos h]
      unfold getC
      by_cases h2 : e.1 = g
      · have : f = g := by omega
        simp [h2, this]
      · have : ¬ f = g := by omega
        simp [h2, this]
    · rw [if_neg h]
      unfold getC
      by_cases h2 : e.1 = g
      · have : ¬ f = g := by omega
        simp [h2, this]
      · simp only [h2, if_false]; exact ih

theorem keys_bump {f k x : Int} : ∀ {E : List (Int × Int)}, (∃ v, (x, v) ∈ bump f k E) ↔ x = f ∨ ∃ v, (x, v) ∈ E
  | [] => by simp [bump]
  | e :: E => by
    have ih := keys_bump (f := f) (k := k) (x := x) (E := E)
    unfold bump
    by_cases h : e.1 = f
    · rw [if_pos h]
      constructor
      · rintro ⟨v, hv⟩
        rcases List.mem_cons.1 hv with hv | hv
        · left; have := (Prod.mk.inj hv).1; omega
        · exact .inr ⟨v, by simp [hv]⟩
      · rintro (rfl | ⟨v, hv⟩)
        · exact ⟨e.2 + k, by rw [← h]; simp⟩
        · rcases List.mem_cons.1 hv with hv | hv
          · subst hv; exact ⟨v + k, by simp⟩
          · exact ⟨v, by simp [hv]⟩
    · rw [if_neg h]
      constructor
      · rintro ⟨v, hv⟩
        rcases List.mem_cons.1 hv with hv | hv
        · exact .inr ⟨v, by simp [hv]⟩
        · rcases ih.1 ⟨v, hv⟩ with h | ⟨v, h⟩
          · exact .inl h
          · exact .inr ⟨v, by simp [h]⟩
      · rintro (h | ⟨v, hv⟩)
        · obtain ⟨v, hv⟩ := ih.2 (.inl h); exact ⟨v, by simp [hv]⟩
        · rcases List.mem_cons.1 hv with hv | hv
          · exact ⟨v, by simp [hv]⟩
          · obtain ⟨v, hv⟩ := ih.2 (.inr ⟨v, hv⟩); exact ⟨v, by simp [hv]⟩

/-- Each key once. -/
def Keys (E : List (Int × Int)) : Prop := E.Pairwise fun a b => a.1 ≠ b.1
theorem keys_once {f k : Int} : ∀ {E : List (Int × Int)}, Keys E → Keys (bump f k E)
  | [], _ => by unfold bump Keys; simp
  | e :: E, h => by
    obtain ⟨h1, h2⟩ := List.pairwise_cons.1 h
    unfold bump
    by_cases he : e.1 = f
    · rw [if_pos he]
      exact List.Pairwise.cons (fun a ha => h1 a ha) h2
    · rw [if_neg he]
      refine List.Pairwise.cons (fun a ha => ?_) (keys_once h2)
      rcases (keys_bump (x := a.1)).1 ⟨a.2, ha⟩ with h | ⟨v, hv⟩
      · omega
      · exact h1 (a.1, v) hv
theorem getC_mem : ∀ {E : List (Int × Int)}, Keys E → ∀ e ∈ E, getC e.1 E = e.2
  | x :: E, h, e, he => by
    obtain ⟨h1, h2⟩ := List.pairwise_cons.1 h
    unfold getC
    rcases List.mem_cons.1 he with rfl | he
    · simp
    · rw [if_neg (h1 e he), getC_mem h2 e he]

theorem kinds_get {f : Int} : ∀ {l : List (Int × Int × Int)} {E : List (Int × Int)}, getC f (kinds E l) = getC f E + cntN l f
  | [], E => by simp [kinds, cntN]
  | n :: l, E => by
    unfold kinds
    rw [kinds_get (l := l), getC_bump]
    have hc : cntN (n :: l) f = (if n.1 = f ∧ ¬ n.2.1 = 2 then 1 else 0) + cntN l f := by
      unfold cntN
      rw [List.filter_cons]
      by_cases a : n.1 = f
      · by_cases b : n.2.1 = 2
        · simp [a, b]
        · simp [a, b]; omega
      · simp [a]
    rw [hc]
    unfold kindK
    by_cases a : n.1 = f <;> by_cases b : n.2.1 = 2 <;> simp [a, b] <;> omega
theorem kinds_keys {x : Int} : ∀ {l : List (Int × Int × Int)} {E : List (Int × Int)}, (∃ v, (x, v) ∈ kinds E l) ↔ (∃ n ∈ l, n.1 = x) ∨ ∃ v, (x, v) ∈ E
  | [], E => by simp [kinds]
  | n :: l, E => by
    unfold kinds
    rw [kinds_keys (l := l), keys_bump]
    constructor
    · rintro (⟨m, hm, h⟩ | rfl | h)
      · exact .inl ⟨m, by simp [hm], h⟩
      · exact .inl ⟨n, by simp, rfl⟩
      · exact .inr h
    · rintro (⟨m, hm, h⟩ | h)
      · rcases List.mem_cons.1 hm with rfl | hm
        · exact .inr (.inl h.symm)
        · exact .inl ⟨m, hm, h⟩
      · exact .inr (.inr h)
theorem kinds_once : ∀ {l : List (Int × Int × Int)} {E : List (Int × Int)}, Keys E → Keys (kinds E l)
  | [], E, h => h
  | n :: l, E, h => by unfold kinds; exact kinds_once (keys_once h)

/-- The map's entries all say three exactly if each node's function has three nodes that are no instructions. -/
theorem kinds_all {ns : List (Int × Int × Int)} : ((kinds [] ns).any fun e => decide (e.2 ≠ 3)) = !(ns.all fun n => cntN ns n.1 == 3) := by
  have ho : Keys (kinds [] ns) := kinds_once List.Pairwise.nil
  have hg : ∀ f, getC f (kinds [] ns) = cntN ns f := fun f => by rw [kinds_get]; simp [getC]
  rw [Bool.eq_iff_iff, List.any_eq_true, Bool.not_eq_true', List.all_eq_false]
  constructor
  · rintro ⟨e, he, h⟩
    rw [decide_eq_true_eq] at h
    rcases kinds_keys.1 ⟨e.2, he⟩ with ⟨n, hn, h1⟩ | ⟨v, hv⟩
    · refine ⟨n, hn, ?_⟩
      have := getC_mem ho e he
      rw [hg] at this
      simp only [beq_iff_eq]
      rw [h1]
      omega
    · simp at hv
  · rintro ⟨n, hn, h⟩
    simp only [beq_iff_eq] at h
    obtain ⟨v, hv⟩ := kinds_keys.2 (.inl ⟨n, hn, rfl⟩)
    refine ⟨_, hv, ?_⟩
    have := getC_mem ho _ hv
    simp only at this
    rw [hg] at this
    simp only [decide_eq_true_eq]
    omega

theorem cntN_le {f : Int} {l : List (Int × Int × Int)} : cntN l f ≤ l.length := List.length_filter_le _ _

theorem kinds_snoc {E : List (Int × Int)} : ∀ {l : List (Int × Int × Int)} {E : List (Int × Int)} {n : Int × Int × Int}, kinds E (l ++ [n]) = bump n.1 (kindK n) (kinds E l)
  | [], E, n => rfl
  | m :: l, E, n => by
    rw [List.cons_append]
    unfold kinds
    exact kinds_snoc (E := E)

end Go.Can

namespace Go.Can
open Go Go.Proofs

@[go_sem] theorem cf0_keep : cf0.keep = cfKeep := rfl
@[go_sem] theorem cf0_isv {f : FuncId} {t : Tmp} : isvOf cf0 f t = (cfVars f).contains t := rfl
@[go_sem] theorem cf0_mk {f : FuncId} {c : Code} {o : Option Out} {e : Env} : mkT cf0 f c o e = maskA (fun t => (liveW f (regOf c) o).contains t) 0 e := rfl


set_option maxRecDepth 100000 in
set_option maxHeartbeats 4000000 in
theorem z46 {σ : St} {base : Nat} {a : Int} : callL Tryz.prog cf0 57 [.int .i64 a] σ base = some (.bool false, σ) := by
  refine callL_pure (σ' := σ) (v := .bool false) Tryz.func57 rfl (by kernel_rfl) rfl rfl (by simp) ?_ rfl
  rw [z_body]
  simp only [Tryz.f57, go_sem, Nat.reduceBEq, Nat.reduceAdd, Nat.reduceSub, Nat.reduceEqDiff, Nat.reduceLeDiff, Nat.reduceMul, rgT, z_regionT, allocs, isv?, z_step, z_stepE, okDst, wantedA, evalOp, evalV, evalS, storeAt, look, ofV, ofC, putA, clearA, lookV, lookVs, lookParts, adrOk, baseAt, baseOf, loadAt, partA, binA, unA, resOf, mkRes, envOf, List.range, List.range.loop, evalBuiltin, liveW, regOf, startE, optN, mapGet, mapPut, orZero, keyOk, cellOk, decide_eq_true_eq, Bool.not_eq_true', decide_eq_false_iff_not, ite_not, not_true_eq_false, not_false_eq_true, reduceCtorEq, and_true, true_and, and_self]

set_option maxRecDepth 100000 in
set_option maxHeartbeats 4000000 in
theorem z23 {σ : St} {base : Nat} {a b : Int} : callL Tryz.prog cf0 35 [.int .i64 a, .int .i64 b] σ base = some (.int .i64 (cmpI a b), σ) := by
  refine callL_pure (σ' := σ) (v := .int .i64 (cmpI a b)) Tryz.func35 rfl (by kernel_rfl) rfl rfl (by simp) ?_ rfl
  rw [z_body]
  simp only [Tryz.f35, go_sem, Nat.reduceBEq, Nat.reduceAdd, Nat.reduceSub, Nat.reduceEqDiff, Nat.reduceLeDiff, Nat.reduceMul, rgT, z_regionT, allocs, isv?, z_step, z_stepE, okDst, wantedA, evalOp, evalV, evalS, storeAt, look, ofV, ofC, putA, clearA, lookV, lookVs, lookParts, adrOk, baseAt, baseOf, loadAt, partA, binA, unA, resOf, mkRes, envOf, List.range, List.range.loop, evalBuiltin, liveW, regOf, startE, optN, mapGet, mapPut, orZero, keyOk, cellOk, decide_eq_true_eq, Bool.not_eq_true', decide_eq_false_iff_not, ite_not, not_true_eq_false, not_false_eq_true, reduceCtorEq, and_true, true_and, and_self, z46]
  unfold cmpI
  split
  · rfl
  · split <;> rfl


set_option maxRecDepth 100000 in
set_option maxHeartbeats 4000000 in
theorem z22 {σ : St} {base : Nat} {l : List Int} (hlen : l.length < 2^63) : callL Tryz.prog cf0 34 [.list true 1 (l.map (AV.int .i64))] σ base = some (.int .i64 (orI l), σ) := by
  have hll : (l.map (AV.int .i64)).length = l.length := by simp
  have key : ∀ n (i : Nat), i + n = l.length → loopM Tryz.prog cf0 34 σ.length (loopOf Tryz.f34 3) (envOf 18 [(3, .int .i64 0), (6, .list true 1 (l.map (AV.int .i64))), (7, .int .i64 l.length), (8, .int .i64 i)], σ) =
     if orI (l.drop i) = 0 then some (.exit 0, envOf 18 [(3, .int .i64 0)], σ) else some (.ret, envOf 18 [(2, .int .i64 (orI (l.drop i)))], σ) := by
    intro n
    induction n with
    | zero =>
      intro i hi
      have hi' : ¬ ((i : Int) < l.length) := by omega
      have hd : l.drop i = [] := List.drop_eq_nil_of_le (by omega)
      rw [loopM_step (by kernel_rfl), hd]
      simp only [loopOf, findLoop, regOf, Option.getD, envOf, List.range, List.range.loop, go_sem, Nat.reduceBEq, Nat.reduceEqDiff, Option.some.injEq, reduceCtorEq, Tryz.f34]
      simp only [go_sem, Nat.reduceBEq, Nat.reduceAdd, Nat.reduceSub, Nat.reduceEqDiff, Nat.reduceLeDiff, Nat.reduceMul, rgT, z_regionT, allocs, isv?, z_step, z_stepE, okDst, wantedA, evalOp, evalV, evalS, storeAt, look, ofV, ofC, putA, clearA, lookV, lookVs, lookParts, adrOk, baseAt, baseOf, loadAt, partA, binA, unA, resOf, mkRes, envOf, List.range, List.range.loop, evalBuiltin, liveW, regOf, startE, optN, mapGet, mapPut, orZero, keyOk, cellOk, decide_eq_true_eq, Bool.not_eq_true', decide_eq_false_iff_not, ite_not, not_true_eq_false, not_false_eq_true, reduceCtorEq, and_true, true_and, and_self, hi', orI, if_true]
    | succ n ih =>
      intro i hi
      have hlt : i < l.length := by omega
      have hd := drop_getI hlt
      have hw : IntKind.i64.wrap ((i : Int) + 1) = ((i + 1 : Nat) : Int) := by rw [wrap_i64] <;> omega
      have hlt' : (i : Int) < (l.length : Int) := by omega
      have hel : (l.map (AV.int .i64))[i]? = some (.int .i64 (l.getD i 0)) := by simp [hlt]
      have ih' := ih (i + 1) (by omega)
      rw [loopM_step (by kernel_rfl), hd]
      simp only [loopOf, findLoop, regOf, Option.getD, envOf, List.range, List.range.loop, go_sem, Nat.reduceBEq, Nat.reduceEqDiff, Option.some.injEq, reduceCtorEq, Tryz.f34] at ih' ⊢
      generalize l.getD i 0 = y at *
      generalize l.map (AV.int .i64) = A at *
      simp only [go_sem, Nat.reduceBEq, Nat.reduceAdd, Nat.reduceSub, Nat.reduceEqDiff, Nat.reduceLeDiff, Nat.reduceMul, rgT, z_regionT, allocs, isv?, z_step, z_stepE, okDst, wantedA, evalOp, evalV, evalS, storeAt, look, ofV, ofC, putA, clearA, lookV, lookVs, lookParts, adrOk, baseAt, baseOf, loadAt, partA, binA, unA, resOf, mkRes, envOf, List.range, List.range.loop, evalBuiltin, liveW, regOf, startE, optN, mapGet, mapPut, orZero, keyOk, cellOk, decide_eq_true_eq, Bool.not_eq_true', decide_eq_false_iff_not, ite_not, not_true_eq_false, not_false_eq_true, reduceCtorEq, and_true, true_and, and_self, hlt', hel, hll, hw, ih', orI]
      by_cases hy : y = 0
      · simp only [hy, if_true]
      · simp only [hy, if_false]
  have key0 := key l.length 0 (by omega)
  rw [show ((0 : Nat) : Int) = 0 from rfl, List.drop_zero] at key0
  refine callL_pure (σ' := σ) (v := .int .i64 (orI l)) Tryz.func34 rfl (by kernel_rfl) rfl rfl (by simp) ?_ rfl
  rw [z_body]
  simp only [loopOf, findLoop, regOf, Option.getD, envOf, List.range, List.range.loop, go_sem, Nat.reduceBEq, Nat.reduceEqDiff, Option.some.injEq, reduceCtorEq, Tryz.f34] at key0
  generalize l.map (AV.int .i64) = A at *
  simp only [Tryz.f34, go_sem, Nat.reduceBEq, Nat.reduceAdd, Nat.reduceSub, Nat.reduceEqDiff, Nat.reduceLeDiff, Nat.reduceMul, rgT, z_regionT, allocs, isv?, z_step, z_stepE, okDst, wantedA, evalOp, evalV, evalS, storeAt, look, ofV, ofC, putA, clearA, lookV, lookVs, lookParts, adrOk, baseAt, baseOf, loadAt, partA, binA, unA, resOf, mkRes, envOf, List.range, List.range.loop, evalBuiltin, liveW, regOf, startE, optN, mapGet, mapPut, orZero, keyOk, cellOk, decide_eq_true_eq, Bool.not_eq_true', decide_eq_false_iff_not, ite_not, not_true_eq_false, not_false_eq_true, reduceCtorEq, and_true, true_and, and_self, hll, key0]
  split
  · rename_i h; rw [h]
  · rfl

theorem z22_2 {σ : St} {base : Nat} {x y : Int} : callL Tryz.prog cf0 34 [.list true 1 [.int .i64 x, .int .i64 y]] σ base = some (.int .i64 (orI [x, y]), σ) := z22 (l := [x, y]) (by simp)
theorem z22_3 {σ : St} {base : Nat} {x y z : Int} : callL Tryz.prog cf0 34 [.list true 1 [.int .i64 x, .int .i64 y, .int .i64 z]] σ base = some (.int .i64 (orI [x, y, z]), σ) := z22 (l := [x, y, z]) (by simp)
set_option maxRecDepth 100000 in
set_option maxHeartbeats 4000000 in
theorem z59 {σ : St} {base : Nat} {a b : Int × Int × Int} : callL Tryz.prog cf0 74 [nodeA a, nodeA b] σ base = some (.int .i64 (cmpN a b), σ) := by
  refine callL_pure (σ' := σ) (v := .int .i64 (cmpN a b)) Tryz.func74 rfl (by kernel_rfl) rfl rfl (by simp) ?_ rfl
  rw [z_body]
  unfold nodeA cmpN
  simp only [Tryz.f74, go_sem, Nat.reduceBEq, Nat.reduceAdd, Nat.reduceSub, Nat.reduceEqDiff, Nat.reduceLeDiff, Nat.reduceMul, rgT, z_regionT, allocs, isv?, z_step, z_stepE, okDst, wantedA, evalOp, evalV, evalS, storeAt, look, ofV, ofC, putA, clearA, lookV, lookVs, lookParts, adrOk, baseAt, baseOf, loadAt, partA, binA, unA, resOf, mkRes, envOf, List.range, List.range.loop, evalBuiltin, liveW, regOf, startE, optN, mapGet, mapPut, orZero, keyOk, cellOk, decide_eq_true_eq, Bool.not_eq_true', decide_eq_false_iff_not, ite_not, not_true_eq_false, not_false_eq_true, reduceCtorEq, and_true, true_and, and_self, z23, z22_3]


end Go.Can
