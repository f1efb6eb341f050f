/- The statement ExplodedWithin: for every two solutions the law answers true, and leaves its arguments as they were. -/
import Derived.Test.YtgcfhcgnkohfkaaIfdsF
import Derived.Test.YtgcfhcgnkohfkaaIfdsK3
import Derived.Test.YtgcfhcgnkohfkaaIfdsK4
import Derived.Test.YtgcfhcgnkohfkaaIfdsK5
import Derived.Test.YtgcfhcgnkohfkaaCanY
import Derived.Test.YtgcfhcgnkohfkaaChecked
set_option linter.unusedSimpArgs false
set_option linter.unusedVariables false
set_option maxRecDepth 100000
namespace Go.Can
open Go Go.Proofs Go.RowKit

set_option maxHeartbeats 4000000 in
theorem c19 {σ : St} {base : Nat} : callL Try.prog cfI 19 [] σ base = some (.bool true, σ) := by
  have h36 := callL_iff.2 ⟨22, one36⟩
  have h35 := callL_iff.2 ⟨22, along35⟩
  have ha := callL_iff.2 ⟨22, trailA⟩
  have hb := callL_iff.2 ⟨22, trailB⟩
  have hc := callL_iff.2 ⟨22, trailC⟩
  have ov : (Slot.val oneA).v = some oneA := rfl
  have e2 : (((2 : Nat) : Int) = 2) = True := eq_true rfl
  have e3 : ((0 : Int) < ((2 : Nat) : Int)) = True := by simp
  have e4 : ((1 : Int) < ((2 : Nat) : Int)) = True := by simp
  have e5 : ((0 : Int) ≤ 0) = True := by simp
  have e6 : ((0 : Int) ≤ 1) = True := by simp
  have g0 : ∀ a b : AV, [a, b][(0 : Int).toNat]? = some a := fun _ _ => rfl
  have g1 : ∀ a b : AV, [a, b][(1 : Int).toNat]? = some b := fun _ _ => rfl
  generalize oneA = A at *
  refine callL_nullary (σ' := []) (v := .bool true) Try.func19 rfl (by kernel_rfl) rfl rfl ?_ rfl
  unfold bodyT
  simp only [Try.f19, go_sem, Nat.reduceBEq, Nat.reduceAdd, Nat.reduceSub, Nat.reduceEqDiff, Nat.reduceLeDiff, Nat.reduceMul, rgT, regionT, allocs, isv?, stepO, okDst, wantedA, evalOp, evalV, evalS, storeAt, look, ofV, ofC, putA, clearA, lookV, lookVs, lookParts, adrOk, baseAt, baseOf, loadAt, partA, binA, unA, resOf, mkRes, envOf, List.range, List.range.loop, evalBuiltin, liveW, regOf, startE, optN, mapGet, mapPut, orZero, keyOk, cellOk, h36, h35, ha, hb, hc, ov, e2, e3, e4, e5, e6, g0, g1]

theorem w1_self {bs : List Bool} {fs : List (List Int)} : ∀ (rest pre : List Bool), bs = pre ++ rest → w1 bs fs rest pre.length = true
  | [], _, _ => rfl
  | b :: rest, pre, he => by
    have ih := w1_self (bs := bs) (fs := fs) rest (pre ++ [b]) (by rw [he]; simp)
    have hpl : (pre ++ [b]).length = pre.length + 1 := by simp
    rw [hpl] at ih
    unfold w1
    rw [ih]
    have hlt : (pre.length : Int) < bs.length := by rw [he]; simp; omega
    have hg : bs.getD (pre.length : Int).toNat false = b := by rw [he]; simp
    have hh : holdsB bs fs pre.length 0 = b := by
      unfold holdsB
      rw [if_pos rfl, hg]
      simp [hlt]
    rw [hh]
    cases b <;> rfl

theorem w3_self {fs : List (List Int)} {n : Nat} (hn : n < fs.length) : ∀ (l : List Int), (∀ d ∈ l, d ∈ fs.getD n []) → w3 fs n l = true
  | [], _ => rfl
  | d :: r, h => by
    unfold w3
    rw [if_neg, w3_self hn r (fun d hd => h d (by simp [hd]))]
    have h1 : ¬ ((n : Int) ≥ fs.length) := by omega
    have h2 := h d (by simp)
    simp only [h1, h2, decide_false, decide_true, Bool.not_true, Bool.or_false, Bool.false_eq_true, not_false_eq_true]

theorem w2_self {fs : List (List Int)} : ∀ (rest pre : List (List Int)), fs = pre ++ rest → w2 fs rest pre.length = true
  | [], _, _ => rfl
  | l :: rest, pre, he => by
    have ih := w2_self (fs := fs) rest (pre ++ [l]) (by rw [he]; simp)
    have hpl : (pre ++ [l]).length = pre.length + 1 := by simp
    rw [hpl] at ih
    unfold w2
    rw [ih, if_pos]
    refine w3_self (by rw [he]; simp) l (fun d hd => ?_)
    have : fs.getD pre.length [] = l := by rw [he]; simp
    rw [this]; exact hd

theorem sol_eq {bs : List Bool} {fs : List (List Int)} : solA bs fs = .agg [.list false 1 (bs.map .bool), .list false 1 (fs.map iL)] := rfl

set_option maxHeartbeats 4000000 in
theorem l6 {bs bs2 : List Bool} {fs fs2 : List (List Int)} (hb1 : bs.length < 2^63) (hl1 : ∀ l ∈ fs, l.length < 2^63) (hl2 : ∀ l ∈ fs2, l.length < 2^63) :
    callL Try.prog cfI 6 [solA bs fs, solA bs2 fs2] [] 0 = some (.bool true, []) := by
  have ll1 : lenS (.list false 1 (fs.map iL)) = some fs.length := by simp [lenS]
  have ll2 : lenS (.list false 1 (fs2.map iL)) = some fs2.length := by simp [lenS]
  rw [sol_eq, sol_eq]
  refine callL_pure (σ' := []) (v := .bool true) Try.func6 rfl (by kernel_rfl) rfl rfl (by simp) ?_ rfl
  by_cases h1 : (fs.length : Int) > 100
  · unfold bodyT
    generalize fs.map iL = F1 at *
    generalize fs2.map iL = F2 at *
    generalize bs.map AV.bool = R1 at *
    generalize bs2.map AV.bool = R2 at *
    simp only [Try.f6, go_sem, Nat.reduceBEq, Nat.reduceAdd, Nat.reduceSub, Nat.reduceEqDiff, Nat.reduceLeDiff, Nat.reduceMul, rgT, regionT, allocs, isv?, stepO, okDst, wantedA, evalOp, evalV, evalS, storeAt, look, ofV, ofC, putA, clearA, lookV, lookVs, lookParts, adrOk, baseAt, baseOf, loadAt, partA, binA, unA, resOf, mkRes, envOf, List.range, List.range.loop, evalBuiltin, liveW, regOf, startE, optN, mapGet, mapPut, orZero, keyOk, cellOk, ll1, ll2, h1]
  by_cases h2 : (fs2.length : Int) > 100
  · unfold bodyT
    generalize fs.map iL = F1 at *
    generalize fs2.map iL = F2 at *
    generalize bs.map AV.bool = R1 at *
    generalize bs2.map AV.bool = R2 at *
    simp only [Try.f6, go_sem, Nat.reduceBEq, Nat.reduceAdd, Nat.reduceSub, Nat.reduceEqDiff, Nat.reduceLeDiff, Nat.reduceMul, rgT, regionT, allocs, isv?, stepO, okDst, wantedA, evalOp, evalV, evalS, storeAt, look, ofV, ofC, putA, clearA, lookV, lookVs, lookParts, adrOk, baseAt, baseOf, loadAt, partA, binA, unA, resOf, mkRes, envOf, List.range, List.range.loop, evalBuiltin, liveW, regOf, startE, optN, mapGet, mapPut, orZero, keyOk, cellOk, ll1, ll2, h1, h2]
  have k17 := c17 (σ := []) (base := 0) (ra := .list false 1 (bs.map .bool)) (fa := .list false 1 (fs.map iL)) (rb := .list false 1 (bs2.map .bool)) (fb := .list false 1 (fs2.map iL)) (Sl.list _) (Sl.list _) (Sl.list _) (Sl.list _) hb1 (by omega) hl1 hl2 (fun b n d => c10 (base := b) (bs := bs2) (n := n) (d := d) hl2)
  have k18 := c18 (σ := []) (base := 0) (ra := .list false 1 (bs.map .bool)) (fa := .list false 1 (fs.map iL)) (rb := .list false 1 (bs2.map .bool)) (fb := .list false 1 (fs2.map iL)) (Sl.list _) (Sl.list _) (Sl.list _) (Sl.list _) hb1 (by omega) hl1 hl2 (fun b n d => c11 (base := b) (bs := bs2) (n := n) (d := d) hl2)
  have kself := c17 (σ := []) (base := 0) (ra := .list false 1 (bs.map .bool)) (fa := .list false 1 (fs.map iL)) (rb := .list false 1 (bs.map .bool)) (fb := .list false 1 (fs.map iL)) (Sl.list _) (Sl.list _) (Sl.list _) (Sl.list _) hb1 (by omega) hl1 hl1 (fun b n d => c10 (base := b) (bs := bs) (n := n) (d := d) hl1)
  have s1 := w1_self (fs := fs) bs [] rfl
  have s2 := w2_self fs [] rfl
  rw [List.length_nil, List.nil_append] at s1 s2
  rw [s1, s2] at kself
  have hself : ∀ (R1 F1 : AV), (AV.agg [R1, F1]) = .agg [R1, F1] := fun _ _ => rfl
  unfold bodyT
  generalize (w1 bs2 fs2 bs 0 && w2 fs2 fs 0) = q at *
  generalize fs.map iL = F1 at *
  generalize fs2.map iL = F2 at *
  generalize bs.map AV.bool = R1 at *
  generalize bs2.map AV.bool = R2 at *
  cases q <;> simp only [Try.f6, go_sem, Nat.reduceBEq, Nat.reduceAdd, Nat.reduceSub, Nat.reduceEqDiff, Nat.reduceLeDiff, Nat.reduceMul, rgT, regionT, allocs, isv?, stepO, okDst, wantedA, evalOp, evalV, evalS, storeAt, look, ofV, ofC, putA, clearA, lookV, lookVs, lookParts, adrOk, baseAt, baseOf, loadAt, partA, binA, unA, resOf, mkRes, envOf, List.range, List.range.loop, evalBuiltin, liveW, regOf, startE, optN, mapGet, mapPut, orZero, keyOk, cellOk, Bool.and_self, ll1, ll2, h1, h2, k17, k18, kself, c19]

theorem ty_ints {P : Program} {n : Nat} {e : TypeId} {k : IntKind} (he : P.underlying e = some (.int k)) : ∀ {xs : List (List AV)}, (∀ x ∈ xs, Ty P n e x) → ∃ l : List Int, xs.map (mkAV (isAggT P e)) = l.map (AV.int k) ∧ l.length = xs.length ∧ ∀ z ∈ l, (Lit.int k z).wf = true
  | [], _ => ⟨[], rfl, rfl, fun z hz => by simp at hz⟩
  | x :: xs, h => by
    obtain ⟨l, h1, h2, h3⟩ := ty_ints he (xs := xs) (fun y hy => h y (by simp [hy]))
    have hx := h x (by simp)
    cases n with
    | zero => exact hx.elim
    | succ n =>
      unfold Ty at hx
      rw [he] at hx
      obtain ⟨q, rfl, hq⟩ := hx
      have ha : isAggT P e = false := by simp [isAggT, he]
      refine ⟨q :: l, ?_, by simp [h2], fun z hz => ?_⟩
      · rw [List.map_cons, List.map_cons, h1, ha]; rfl
      · rcases List.mem_cons.1 hz with rfl | hz
        · exact hq
        · exact h3 z hz

theorem ty_bools {P : Program} {n : Nat} {e : TypeId} (he : P.underlying e = some .bool) : ∀ {xs : List (List AV)}, (∀ x ∈ xs, Ty P n e x) → ∃ l : List Bool, xs.map (mkAV (isAggT P e)) = l.map AV.bool ∧ l.length = xs.length
  | [], _ => ⟨[], rfl, rfl⟩
  | x :: xs, h => by
    obtain ⟨l, h1, h2⟩ := ty_bools he (xs := xs) (fun y hy => h y (by simp [hy]))
    have hx := h x (by simp)
    cases n with
    | zero => exact hx.elim
    | succ n =>
      unfold Ty at hx
      rw [he] at hx
      obtain ⟨q, rfl⟩ := hx
      have ha : isAggT P e = false := by simp [isAggT, he]
      exact ⟨q :: l, by rw [List.map_cons, List.map_cons, h1, ha]; rfl, by simp [h2]⟩

theorem ty57 {n : Nat} {cs : List AV} (h : Ty Try.prog (n + 1) 57 cs) : ∃ l, cs = [.list false 1 (ints l)] ∧ l.length ≤ maxLen := by
  unfold Ty at h
  rw [un57] at h
  obtain ⟨xs, rfl, h1, h2⟩ := h
  obtain ⟨l, e, e2, _⟩ := ty_ints un3 h2
  have hc : Try.prog.cellsOf 3 = 1 := by kernel_rfl
  rw [e, hc]
  exact ⟨l, rfl, by omega⟩

theorem ty34 {n : Nat} {cs : List AV} (h : Ty Try.prog (n + 1) 34 cs) : ∃ bs : List Bool, cs = [.list false 1 (bs.map .bool)] ∧ bs.length < 2^63 := by
  unfold Ty at h
  rw [un34] at h
  obtain ⟨xs, rfl, h1, h2⟩ := h
  obtain ⟨l, e, e2⟩ := ty_bools un4 h2
  have hc : Try.prog.cellsOf 4 = 1 := by kernel_rfl
  rw [e, hc]
  have h4 : maxLen < 2^63 := by decide
  exact ⟨l, rfl, by omega⟩

theorem facts_of {n : Nat} : ∀ {xs : List (List AV)}, (∀ x ∈ xs, Ty Try.prog (n + 1) 57 x) → ∃ fs : List (List Int), xs.map (mkAV (isAggT Try.prog 57)) = fs.map (fun l => AV.list false 1 (ints l)) ∧ ∀ l ∈ fs, l.length ≤ maxLen
  | [], _ => ⟨[], rfl, fun l hl => by simp at hl⟩
  | x :: xs, h => by
    obtain ⟨fs, h1, h2⟩ := facts_of (xs := xs) (fun y hy => h y (by simp [hy]))
    obtain ⟨l, rfl, h3⟩ := ty57 (h x (by simp))
    have ha : isAggT Try.prog 57 = false := by simp [isAggT, un57]
    refine ⟨l :: fs, by rw [List.map_cons, List.map_cons, h1, ha]; rfl, fun m hm => ?_⟩
    rcases List.mem_cons.1 hm with rfl | hm
    · exact h3
    · exact h2 m hm

theorem ty35 {n : Nat} {cs : List AV} (h : Ty Try.prog (n + 2) 35 cs) : ∃ fs : List (List Int), cs = [.list false 1 (fs.map fun l => .list false 1 (ints l))] ∧ ∀ l ∈ fs, l.length < 2^63 := by
  unfold Ty at h
  rw [un35] at h
  obtain ⟨xs, rfl, h1, h2⟩ := h
  obtain ⟨fs, e, h3⟩ := facts_of h2
  have hc : Try.prog.cellsOf 57 = 1 := by kernel_rfl
  rw [e, hc]
  refine ⟨fs, rfl, fun l hl => ?_⟩
  have := h3 l hl
  have h4 : maxLen < 2^63 := by decide
  omega

theorem tyv37 {n : Nat} {a : AV} (h : TyV Try.prog (n + 3) 37 a) : ∃ bs fs, a = solA bs fs ∧ bs.length < 2^63 ∧ ∀ l ∈ fs, l.length < 2^63 := by
  obtain ⟨cs, h1, rfl⟩ := h
  obtain ⟨⟨p, q, rfl, h2, p1, q1, rfl, h3, rfl⟩, ha⟩ := ty_struct (ts := [34, 35]) (by kernel_rfl) h1
  rw [ha]
  obtain ⟨bs, rfl, h5⟩ := ty34 h2
  obtain ⟨fs, rfl, h4⟩ := ty35 h3
  exact ⟨bs, fs, rfl, h5, h4⟩

end Go.Can

namespace Go.Proofs.Ytgcfhcgnkohfkaa
open Go.ChangeShapes Go.WideShapes Go.ChangeAt Go.RowKit Go.Can

theorem Try.own : ownKnob Try.prog.godebug = none := by kernel_rfl
theorem Try.laidOut : laidOutB Try.prog = true := by kernel_rfl

theorem within_lifted (os : Os) (started : os.Started) (H : Type) (enc : TypeId × Value → H) :
    ReturnsInHanded {} Try.checked os 6 .any (Rows.explodedWithinSpec.pre6 enc Try.prog Try.f6 Rows.explodedWithinRow.domain false) (Rows.explodedWithinSpec.post enc Try.prog Try.f6 false true false false) := by
  refine returnsInHanded_of_change (C := Try.checked) Try.own started (by kernel_rfl) Try.func6
    (ChangeSpec.witness6 (enc := enc) (C := Try.checked) false ⟨#[], #[.agg #[.slice none 0 0, .slice none 0 0], .agg #[.slice none 0 0, .slice none 0 0]], []⟩ 8 (by kernel_rfl) (by kernel_rfl) (by kernel_rfl) (by kernel_rfl)) ?_
  intro W base args ds gs before hval hW _ _
  have hW2 := hW
  obtain ⟨p, q, hA, hV, _⟩ := hW2
  obtain ⟨rfl, rfl⟩ := trodVars_none hV
  have hA' : DataW.TrodAll enc Try.prog W 0 (fun _ => true) true [37, 37] args.toList ds p := hA
  obtain ⟨v0, v1, d0, d1, p0, p1, rfl, rfl, rfl, _, _⟩ := trodAll_two hA'
  refine row_of (n := 5) Try.laidOut (rt := 4) rfl un4 rfl rfl rfl rfl ?_ ?_ (fun avs h => ?_) hval hW
  · exact of_decide_eq_true (by kernel_rfl)
  · exact of_decide_eq_true (by kernel_rfl)
  · have h' : TyAll Try.prog 5 [37, 37] avs := h
    cases h' with
    | cons h1 h2 =>
      cases h2 with
      | cons h2 h3 =>
        cases h3
        obtain ⟨bs, fs, rfl, k0, k1⟩ := tyv37 h1
        obtain ⟨bs2, fs2, rfl, k3, k2⟩ := tyv37 h2
        exact good.ok.sim _ _ _ _ _ _ (Nat.le_refl _) (l6 k0 k1 k2)

/-- The statement ExplodedWithin. -/
theorem within_holds : Rows.ExplodedWithinSaid :=
  OpenClaim.holds_of_wide 6 Try.f6 rfl rfl rfl rfl rfl rfl rfl ⟨rfl, rfl, rfl, rfl, rfl⟩ rfl rfl rfl rfl rfl (by kernel_rfl) Try.func6 (by kernel_rfl)
    (of_decide_eq_true (by kernel_rfl)) (by unfold Func.isWrapper; first | (rw [if_pos (by decide +kernel)]; kernel_rfl) | (rw [if_neg (by decide +kernel)]; exact ⟨rfl, rfl⟩))
    (fun os started H enc _ => within_lifted os started H enc)

end Go.Proofs.Ytgcfhcgnkohfkaa
