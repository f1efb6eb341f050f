/- Contracts: New, Pop, the reference's Pop. -/
import Derived.Test.YtgpopkpepebibaaWorkG
set_option linter.unusedSimpArgs false
set_option linter.unusedVariables false
namespace Go.Can
open Go Go.Proofs

/-- An immutable list of these numbers. -/
def Ls (a : AV) (l : List Int) : Prop := ∃ f s, a = .list f s (ints l) ∧ (s = 1 ∨ l = [])

theorem Ls.slw {a : AV} {l : List Int} (h : Ls a l) (σ : St) : Slw σ a l := by
  obtain ⟨f, s, rfl, h⟩ := h
  rcases h with rfl | rfl
  · exact .list
  · exact .nil

theorem Ls.frz {a : AV} {l : List Int} (h : Ls a l) {n k : Nat} {σ : St} : freeze n σ (k + 2) a = some a := by
  obtain ⟨f, s, rfl, h⟩ := h
  unfold freeze
  simp only [frz_ints, Option.map_some]

theorem Ls.nil {f : Bool} {s : Nat} : Ls (.list f s []) [] := ⟨f, s, rfl, .inr rfl⟩
theorem Ls.list {f : Bool} {l : List Int} : Ls (.list f 1 (ints l)) l := ⟨f, 1, rfl, .inl rfl⟩

theorem Ls.slice {a : AV} {l : List Int} (h : Ls a l) {i k : Nat} (h1 : i ≤ k) (h2 : k ≤ l.length) {lo hi : Option Int} (hlo : lo.getD 0 = i) (hhi : hi.getD l.length = k) : ∃ v, sliceOf 1 a lo hi none = some v ∧ Ls v ((l.drop i).take (k - i)) := by
  obtain ⟨f, s, rfl, h⟩ := h
  have hs : (s == 1 || (ints l).isEmpty) = true := by
    rcases h with rfl | rfl
    · rfl
    · simp [ints]
  simp only [sliceOf, hs, if_true]
  rw [ints_len, hhi, hlo, if_pos ⟨by omega, by omega, by omega⟩]
  have e : ((ints l).drop (i : Int).toNat).take ((k : Int).toNat - (i : Int).toNat) = ints ((l.drop i).take (k - i)) := by
    simp only [Int.toNat_natCast, ints, List.map_take, List.map_drop]
  rw [e]
  refine ⟨_, rfl, _, s, rfl, ?_⟩
  rcases h with rfl | rfl
  · exact .inl rfl
  · exact .inr (by simp)

set_option maxRecDepth 100000 in
set_option maxHeartbeats 4000000 in
theorem c21 {σ : St} {base : Nat} {r it : AV} {rank items : List Int} (hr : Ls r rank) (hi : Ls it items) (hlen : items.length < 2^40) :
    (∃ a b, (chkQ rank items ≠ 0 ∨ items = []) ∧ callL Try.prog cfW 21 [.agg [r, it]] σ base = some (.tup [.int .i64 0, .agg [a, b], .bool false], σ) ∧ Ls a [] ∧ Ls b []) ∨
    ∃ x xs b, chkQ rank items = 0 ∧ items = x :: xs ∧ callL Try.prog cfW 21 [.agg [r, it]] σ base = some (.tup [.int .i64 x, .agg [r, b], .bool true], σ) ∧ Ls b xs := by
  have rv := (hr.slw σ).here.v
  have rc := (hr.slw σ).here.cells
  have iv := (hi.slw σ).here.v
  have ic := (hi.slw σ).here.cells
  have il := (hi.slw σ).here.len
  have ie := (hi.slw σ).here.el
  rw [ints_len] at il
  have hck := fun b => c18 (base := b) (hr.slw σ).here (hi.slw σ).here (hi.slw σ).nl (by omega)
  by_cases h : chkQ rank items = 0
  · cases items with
    | nil =>
      left
      refine ⟨.list true 0 [], .list true 0 [], .inr rfl, ?_, .nil, .nil⟩
      refine callL_pure (σ' := σ) (v := .tup [.int .i64 0, .agg [.list true 0 [], .list true 0 []], .bool false]) Try.func21 rfl (by kernel_rfl) rfl rfl (by simp) ?_ rfl
      unfold bodyT
      simp only [List.length_nil] at il
      simp only [Try.f21, go_sem, Nat.reduceBEq, Nat.reduceAdd, Nat.reduceSub, Nat.reduceEqDiff, Nat.reduceLeDiff, Nat.reduceMul, rgT, regionT, cfVars, cfKeep, allocs, isv?, stepO, okDst, wantedA, evalOp, evalV, evalS, storeAt, look, ofV, ofC, putA, clearA, lookV, lookVs, lookParts, adrOk, baseAt, baseOf, loadAt, partA, binA, unA, resOf, mkRes, envOf, List.range, List.range.loop, evalBuiltin, liveW, cfLive, cfOut, cfRes, regOf, startE, optN, mapGet, mapPut, orZero, keyOk, cellOk, rv, rc, ic, il, iv, hck, h, List.length_nil]
    | cons x xs =>
      right
      obtain ⟨b, b1, b2⟩ := hi.slice (i := 1) (k := (x :: xs).length) (lo := some 1) (hi := none) (by simp) (Nat.le_refl _) rfl rfl
      have b2' : Ls b xs := by simpa using b2
      refine ⟨x, xs, b, h, rfl, ?_, b2'⟩
      have hz : ¬ (((x :: xs).length : Nat) : Int) = 0 := by rw [List.length_cons]; omega
      have hlt : ((0 : Int) < (((x :: xs).length : Nat) : Int)) = True := by rw [List.length_cons]; simp
      have hget : (ints (x :: xs))[(0 : Int).toNat]? = some (.int .i64 x) := rfl
      have bv := (b2'.slw σ).here.v
      have bc := (b2'.slw σ).here.cells
      have h00 : ((0 : Int) ≤ 0) = True := by simp
      refine callL_pure (σ' := σ) (v := .tup [.int .i64 x, .agg [r, b], .bool true]) Try.func21 rfl (by kernel_rfl) rfl rfl (by simp) ?_ ?_
      · unfold bodyT
        generalize (x :: xs).length = n at *
        simp only [Try.f21, go_sem, Nat.reduceBEq, Nat.reduceAdd, Nat.reduceSub, Nat.reduceEqDiff, Nat.reduceLeDiff, Nat.reduceMul, rgT, regionT, cfVars, cfKeep, allocs, isv?, stepO, okDst, wantedA, evalOp, evalV, evalS, storeAt, look, ofV, ofC, putA, clearA, lookV, lookVs, lookParts, adrOk, baseAt, baseOf, loadAt, partA, binA, unA, resOf, mkRes, envOf, List.range, List.range.loop, evalBuiltin, liveW, cfLive, cfOut, cfRes, regOf, startE, optN, mapGet, mapPut, orZero, keyOk, cellOk, rv, rc, ic, il, iv, ie, hck, h, hz, hlt, hget, b1, bv, bc, h00]
      · have q1 : freeze σ.length σ 4 r = some r := hr.frz
        have q2 : freeze σ.length σ 4 b = some b := b2'.frz
        simp only [go_sem, q1, q2]
  · left
    refine ⟨.list true 0 [], .list true 0 [], .inl h, ?_, .nil, .nil⟩
    refine callL_pure (σ' := σ) (v := .tup [.int .i64 0, .agg [.list true 0 [], .list true 0 []], .bool false]) Try.func21 rfl (by kernel_rfl) rfl rfl (by simp) ?_ rfl
    unfold bodyT
    simp only [Try.f21, go_sem, Nat.reduceBEq, Nat.reduceAdd, Nat.reduceSub, Nat.reduceEqDiff, Nat.reduceLeDiff, Nat.reduceMul, rgT, regionT, cfVars, cfKeep, allocs, isv?, stepO, okDst, wantedA, evalOp, evalV, evalS, storeAt, look, ofV, ofC, putA, clearA, lookV, lookVs, lookParts, adrOk, baseAt, baseOf, loadAt, partA, binA, unA, resOf, mkRes, envOf, List.range, List.range.loop, evalBuiltin, liveW, cfLive, cfOut, cfRes, regOf, startE, optN, mapGet, mapPut, orZero, keyOk, cellOk, rv, rc, ic, il, iv, hck, h]

end Go.Can
