/- The statements about the worklist: for every input the law answers true, and leaves its arguments as they were. -/
import Derived.Test.YtgpopkpepebibaaWorkT
set_option linter.unusedSimpArgs false
set_option linter.unusedVariables false
namespace Go.Can
open Go Go.Proofs Go.RowKit

theorem ty38 {n : Nat} {a : AV} (h : TyV Try.prog (n + 1) 38 a) : ∃ zs : List Int, a = .list false 1 (zs.map (AV.int .u16)) ∧ ∀ z ∈ zs, 0 ≤ z ∧ z < 65536 := by
  obtain ⟨cs, h1, rfl⟩ := h
  unfold Ty at h1
  rw [un38] at h1
  obtain ⟨xs, rfl, _, h2⟩ := h1
  obtain ⟨l, e, _, h3⟩ := ty_ints un39 h2
  have hc : Try.prog.cellsOf 39 = 1 := by kernel_rfl
  have ha : isAggT Try.prog 38 = false := by simp [isAggT, un38]
  rw [e, hc, ha]
  refine ⟨l, rfl, fun z hz => ?_⟩
  have := h3 z hz
  simp [Lit.wf, IntKind.min, IntKind.max, IntKind.bits, IntKind.signed] at this
  omega

theorem ty5 {n : Nat} {a : AV} (h : TyV Try.prog (n + 1) 5 a) : ∃ t : Nat, a = .int .u8 t ∧ t < 256 := by
  obtain ⟨cs, h1, rfl⟩ := h
  unfold Ty at h1
  rw [un5] at h1
  obtain ⟨q, rfl, hq⟩ := h1
  have ha : isAggT Try.prog 5 = false := by simp [isAggT, un5]
  rw [ha]
  simp [Lit.wf, IntKind.min, IntKind.max, IntKind.bits, IntKind.signed] at hq
  refine ⟨q.toNat, ?_, by omega⟩
  show AV.int .u8 q = _
  congr 1
  omega

end Go.Can

namespace Go.Proofs.Ytgpopkpepebibaa
open Go.ChangeShapes Go.WideShapes Go.ChangeAt Go.RowKit Go.Can

theorem Try.own : ownKnob Try.prog.godebug = none := by kernel_rfl
theorem Try.laidOut : laidOutB Try.prog = true := by kernel_rfl

set_option maxRecDepth 100000 in
theorem once_lifted (os : Os) (started : os.Started) (H : Type) (enc : TypeId × Value → H) :
    ReturnsInHanded {} Try.checked os 7 .any (Rows.worklistOnceSpec.pre6 enc Try.prog Try.f7 Rows.worklistOnceRow.domain false) (Rows.worklistOnceSpec.post enc Try.prog Try.f7 false true false false) := by
  refine returnsInHanded_of_change (C := Try.checked) Try.own started (by kernel_rfl) Try.func7
    (ChangeSpec.witness6 (enc := enc) (C := Try.checked) false ⟨#[], #[.agg #[.slice none 0 0, .slice none 0 0], .int .i64 0], []⟩ 8 (by kernel_rfl) (by kernel_rfl) (by kernel_rfl) (by kernel_rfl)) ?_
  intro W base args ds gs before hval hW _ _
  have hW2 := hW
  obtain ⟨p, q, hA, hV, _⟩ := hW2
  obtain ⟨rfl, rfl⟩ := trodVars_none hV
  have hA' : DataW.TrodAll enc Try.prog W 0 (fun _ => true) true [25, 3] args.toList ds p := hA
  obtain ⟨v0, v1, d0, d1, p0, p1, rfl, rfl, rfl, _, _⟩ := trodAll_two hA'
  refine row_of (n := 4) Try.laidOut (rt := 4) rfl un4 rfl rfl rfl rfl ?_ ?_ (fun avs h => ?_) hval hW
  · exact of_decide_eq_true (by kernel_rfl)
  · exact of_decide_eq_true (by kernel_rfl)
  · have h' : TyAll Try.prog 4 [25, 3] avs := h
    cases h' with
    | cons h1 h2 =>
      cases h2 with
      | cons h2 h3 =>
        cases h3
        obtain ⟨r, it, rank, items, rfl, k1, k2⟩ := tyv25 h1
        obtain ⟨x, rfl⟩ := tyv3 h2
        exact good.ok.sim _ _ _ _ _ _ (Nat.le_refl _) (l7 k1 k2)

/-- The statement WorklistOnce. -/
theorem once_holds : Rows.WorklistOnceSaid :=
  OpenClaim.holds_of_wide 7 Try.f7 rfl rfl rfl rfl rfl rfl rfl ⟨rfl, rfl, rfl, rfl, rfl⟩ rfl rfl rfl rfl rfl (by kernel_rfl) Try.func7 (by kernel_rfl)
    (of_decide_eq_true (by kernel_rfl)) (by unfold Func.isWrapper; first | (rw [if_pos (by decide +kernel)]; kernel_rfl) | (rw [if_neg (by decide +kernel)]; exact ⟨rfl, rfl⟩))
    (fun os started H enc _ => once_lifted os started H enc)

set_option maxRecDepth 100000 in
theorem tells_lifted (os : Os) (started : os.Started) (H : Type) (enc : TypeId × Value → H) :
    ReturnsInHanded {} Try.checked os 6 .any (Rows.worklistTellsSpec.pre6 enc Try.prog Try.f6 Rows.worklistTellsRow.domain false) (Rows.worklistTellsSpec.post enc Try.prog Try.f6 false true false false) := by
  refine returnsInHanded_of_change (C := Try.checked) Try.own started (by kernel_rfl) Try.func6
    (ChangeSpec.witness6 (enc := enc) (C := Try.checked) false ⟨#[], #[.agg #[.slice none 0 0, .slice none 0 0], .int .i64 0], []⟩ 8 (by kernel_rfl) (by kernel_rfl) (by kernel_rfl) (by kernel_rfl)) ?_
  intro W base args ds gs before hval hW _ _
  have hW2 := hW
  obtain ⟨p, q, hA, hV, _⟩ := hW2
  obtain ⟨rfl, rfl⟩ := trodVars_none hV
  have hA' : DataW.TrodAll enc Try.prog W 0 (fun _ => true) true [25, 3] args.toList ds p := hA
  obtain ⟨v0, v1, d0, d1, p0, p1, rfl, rfl, rfl, _, _⟩ := trodAll_two hA'
  refine row_of (n := 4) Try.laidOut (rt := 4) rfl un4 rfl rfl rfl rfl ?_ ?_ (fun avs h => ?_) hval hW
  · exact of_decide_eq_true (by kernel_rfl)
  · exact of_decide_eq_true (by kernel_rfl)
  · have h' : TyAll Try.prog 4 [25, 3] avs := h
    cases h' with
    | cons h1 h2 =>
      cases h2 with
      | cons h2 h3 =>
        cases h3
        obtain ⟨r, it, rank, items, rfl, k1, k2⟩ := tyv25 h1
        obtain ⟨x, rfl⟩ := tyv3 h2
        exact good.ok.sim _ _ _ _ _ _ (Nat.le_refl _) (l6 k1 k2)

/-- The statement WorklistTells. -/
theorem tells_holds : Rows.WorklistTellsSaid :=
  OpenClaim.holds_of_wide 6 Try.f6 rfl rfl rfl rfl rfl rfl rfl ⟨rfl, rfl, rfl, rfl, rfl⟩ rfl rfl rfl rfl rfl (by kernel_rfl) Try.func6 (by kernel_rfl)
    (of_decide_eq_true (by kernel_rfl)) (by unfold Func.isWrapper; first | (rw [if_pos (by decide +kernel)]; kernel_rfl) | (rw [if_neg (by decide +kernel)]; exact ⟨rfl, rfl⟩))
    (fun os started H enc _ => tells_lifted os started H enc)

set_option maxRecDepth 100000 in
theorem runs_lifted (os : Os) (started : os.Started) (H : Type) (enc : TypeId × Value → H) :
    ReturnsInHanded {} Try.checked os 3 .any (Rows.worklistRunsSpec.pre6 enc Try.prog Try.f3 Rows.worklistRunsRow.domain false) (Rows.worklistRunsSpec.post enc Try.prog Try.f3 false true false false) := by
  refine returnsInHanded_of_change (C := Try.checked) Try.own started (by kernel_rfl) Try.func3
    (ChangeSpec.witness6 (enc := enc) (C := Try.checked) false ⟨#[], #[.slice none 0 0, .slice none 0 0], []⟩ 8 (by kernel_rfl) (by kernel_rfl) (by kernel_rfl) (by kernel_rfl)) ?_
  intro W base args ds gs before hval hW _ _
  have hW2 := hW
  obtain ⟨p, q, hA, hV, _⟩ := hW2
  obtain ⟨rfl, rfl⟩ := trodVars_none hV
  have hA' : DataW.TrodAll enc Try.prog W 0 (fun _ => true) true [22, 22] args.toList ds p := hA
  obtain ⟨v0, v1, d0, d1, p0, p1, rfl, rfl, rfl, _, _⟩ := trodAll_two hA'
  refine row_of (n := 4) Try.laidOut (rt := 4) rfl un4 rfl rfl rfl rfl ?_ ?_ (fun avs h => ?_) hval hW
  · exact of_decide_eq_true (by kernel_rfl)
  · exact of_decide_eq_true (by kernel_rfl)
  · have h' : TyAll Try.prog 4 [22, 22] avs := h
    cases h' with
    | cons h1 h2 =>
      cases h2 with
      | cons h2 h3 =>
        cases h3
        obtain ⟨rank, k1, k3⟩ := tyv22 h1
        obtain ⟨ops, k2, _⟩ := tyv22 h2
        exact good.ok.sim _ _ _ _ _ _ (Nat.le_refl _) (l3 k1 k2 k3)

/-- The statement WorklistRuns. -/
theorem runs_holds : Rows.WorklistRunsSaid :=
  OpenClaim.holds_of_wide 3 Try.f3 rfl rfl rfl rfl rfl rfl rfl ⟨rfl, rfl, rfl, rfl, rfl⟩ rfl rfl rfl rfl rfl (by kernel_rfl) Try.func3 (by kernel_rfl)
    (of_decide_eq_true (by kernel_rfl)) (by unfold Func.isWrapper; first | (rw [if_pos (by decide +kernel)]; kernel_rfl) | (rw [if_neg (by decide +kernel)]; exact ⟨rfl, rfl⟩))
    (fun os started H enc _ => runs_lifted os started H enc)

set_option maxRecDepth 100000 in
theorem sorts_lifted (os : Os) (started : os.Started) (H : Type) (enc : TypeId × Value → H) :
    ReturnsInHanded {} Try.checked os 5 .any (Rows.worklistSortsSpec.pre6 enc Try.prog Try.f5 Rows.worklistSortsRow.domain false) (Rows.worklistSortsSpec.post enc Try.prog Try.f5 false true false false) := by
  refine returnsInHanded_of_change (C := Try.checked) Try.own started (by kernel_rfl) Try.func5
    (ChangeSpec.witness6 (enc := enc) (C := Try.checked) false ⟨#[], #[.slice none 0 0, .int .u8 0], []⟩ 8 (by kernel_rfl) (by kernel_rfl) (by kernel_rfl) (by kernel_rfl)) ?_
  intro W base args ds gs before hval hW _ _
  have hW2 := hW
  obtain ⟨p, q, hA, hV, _⟩ := hW2
  obtain ⟨rfl, rfl⟩ := trodVars_none hV
  have hA' : DataW.TrodAll enc Try.prog W 0 (fun _ => true) true [22, 5] args.toList ds p := hA
  obtain ⟨v0, v1, d0, d1, p0, p1, rfl, rfl, rfl, _, _⟩ := trodAll_two hA'
  refine row_of (n := 4) Try.laidOut (rt := 4) rfl un4 rfl rfl rfl rfl ?_ ?_ (fun avs h => ?_) hval hW
  · exact of_decide_eq_true (by kernel_rfl)
  · exact of_decide_eq_true (by kernel_rfl)
  · have h' : TyAll Try.prog 4 [22, 5] avs := h
    cases h' with
    | cons h1 h2 =>
      cases h2 with
      | cons h2 h3 =>
        cases h3
        obtain ⟨rank, k1, k3⟩ := tyv22 h1
        obtain ⟨t, rfl, k2⟩ := ty5 h2
        exact good.ok.sim _ _ _ _ _ _ (Nat.le_refl _) (l5 k1 k2)

/-- The statement WorklistSorts. -/
theorem sorts_holds : Rows.WorklistSortsSaid :=
  OpenClaim.holds_of_wide 5 Try.f5 rfl rfl rfl rfl rfl rfl rfl ⟨rfl, rfl, rfl, rfl, rfl⟩ rfl rfl rfl rfl rfl (by kernel_rfl) Try.func5 (by kernel_rfl)
    (of_decide_eq_true (by kernel_rfl)) (by unfold Func.isWrapper; first | (rw [if_pos (by decide +kernel)]; kernel_rfl) | (rw [if_neg (by decide +kernel)]; exact ⟨rfl, rfl⟩))
    (fun os started H enc _ => sorts_lifted os started H enc)

set_option maxRecDepth 100000 in
theorem arrival_lifted (os : Os) (started : os.Started) (H : Type) (enc : TypeId × Value → H) :
    ReturnsInHanded {} Try.checked os 4 .any (Rows.worklistArrivalSpec.pre6 enc Try.prog Try.f4 Rows.worklistArrivalRow.domain false) (Rows.worklistArrivalSpec.post enc Try.prog Try.f4 false true false false) := by
  refine returnsInHanded_of_change (C := Try.checked) Try.own started (by kernel_rfl) Try.func4
    (ChangeSpec.witness6 (enc := enc) (C := Try.checked) false ⟨#[], #[.slice none 0 0], []⟩ 8 (by kernel_rfl) (by kernel_rfl) (by kernel_rfl) (by kernel_rfl)) ?_
  intro W base args ds gs before hval hW _ _
  have hW2 := hW
  obtain ⟨p, q, hA, hV, _⟩ := hW2
  obtain ⟨rfl, rfl⟩ := trodVars_none hV
  have hA' : DataW.TrodAll enc Try.prog W 0 (fun _ => true) true [38] args.toList ds p := hA
  obtain ⟨v0, d0, rfl, rfl, _⟩ := trodAll_one hA'
  refine row_of (n := 4) Try.laidOut (rt := 4) rfl un4 rfl rfl rfl rfl ?_ ?_ (fun avs h => ?_) hval hW
  · exact of_decide_eq_true (by kernel_rfl)
  · exact of_decide_eq_true (by kernel_rfl)
  · have h' : TyAll Try.prog 4 [38] avs := h
    cases h' with
    | cons h1 h2 =>
      cases h2
      obtain ⟨zs, rfl, k1⟩ := ty38 h1
      exact good.ok.sim _ _ _ _ _ _ (Nat.le_refl _) (l4 (fun s => Sl.list (σ := s) (sz := 1) (f := false) _) k1)

/-- The statement WorklistArrival. -/
theorem arrival_holds : Rows.WorklistArrivalSaid :=
  OpenClaim.holds_of_wide 4 Try.f4 rfl rfl rfl rfl rfl rfl rfl ⟨rfl, rfl, rfl, rfl, rfl⟩ rfl rfl rfl rfl rfl (by kernel_rfl) Try.func4 (by kernel_rfl)
    (of_decide_eq_true (by kernel_rfl)) (by unfold Func.isWrapper; first | (rw [if_pos (by decide +kernel)]; kernel_rfl) | (rw [if_neg (by decide +kernel)]; exact ⟨rfl, rfl⟩))
    (fun os started H enc _ => arrival_lifted os started H enc)

end Go.Proofs.Ytgpopkpepebibaa
