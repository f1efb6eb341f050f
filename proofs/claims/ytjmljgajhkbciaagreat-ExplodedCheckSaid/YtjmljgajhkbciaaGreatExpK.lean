/- The statement ExplodedCheck: for every problem and trail the law answers true, and leaves its arguments as they were. -/
import Derived.Test.YtjmljgajhkbciaaGreatExpI
import Derived.Test.YtjmljgajhkbciaaGreatExpJ
import Derived.Test.YtjmljgajhkbciaaGreatIfdsQ
import Derived.Test.YtjmljgajhkbciaaGreatChecked
set_option linter.unusedSimpArgs false
set_option linter.unusedVariables false
set_option maxRecDepth 100000
namespace Go.Can
open Go Go.Proofs Go.RowKit

theorem tyTrail {n : Nat} {a : AV} (h : TyV Tryz.prog (n + 6) 39 a) : ∃ ed fc, a = .agg (trailC ed fc) ∧ ed.length < 2^63 ∧ fc.length < 2^63 := by
  obtain ⟨cs, h1, rfl⟩ := h
  obtain ⟨⟨p, q, rfl, g1, p1, q1, rfl, g2, rfl⟩, ha⟩ := ty_struct (ts := [30, 30]) (by kernel_rfl) h1
  rw [ha]
  obtain ⟨ed, rfl, h5⟩ := ty57 g1
  obtain ⟨fc, rfl, h6⟩ := ty57 g2
  have : maxLen < 2^63 := by decide
  exact ⟨ed, fc, rfl, by omega, by omega⟩

end Go.Can

namespace Go.Proofs.YtjmljgajhkbciaaGreat
open Go.ChangeShapes Go.WideShapes Go.ChangeAt Go.RowKit Go.Can

theorem Tryz.own : ownKnob Tryz.prog.godebug = none := by kernel_rfl
theorem Tryz.laidOut : laidOutB Tryz.prog = true := by kernel_rfl

theorem tcheck_lifted (os : Os) (started : os.Started) (H : Type) (enc : TypeId × Value → H) :
    ReturnsInHanded {} Tryz.checked os 4 .any (Rows.explodedCheckSpec.pre6 enc Tryz.prog Tryz.f4 Rows.explodedCheckRow.domain false) (Rows.explodedCheckSpec.post enc Tryz.prog Tryz.f4 false true false false) := by
  refine returnsInHanded_of_change (C := Tryz.checked) Tryz.own started (by kernel_rfl) Tryz.func4
    (ChangeSpec.witness6 (enc := enc) (C := Tryz.checked) false ⟨#[], #[.agg #[.slice none 0 0, .slice none 0 0, .int .i64 0, .int .i64 0, .slice none 0 0, .slice none 0 0], .agg #[.slice none 0 0, .slice none 0 0]], []⟩ 8 (by kernel_rfl) (by kernel_rfl) (by kernel_rfl) (by kernel_rfl)) ?_
  intro W base args ds gs before hval hW _ _
  have hW2 := hW
  obtain ⟨p, q, hA, hV, _⟩ := hW2
  obtain ⟨rfl, rfl⟩ := trodVars_none hV
  have hA' : DataW.TrodAll enc Tryz.prog W 0 (fun _ => true) true [29, 39] args.toList ds p := hA
  obtain ⟨v0, v1, d0, d1, p0, p1, rfl, rfl, rfl, _, _⟩ := trodAll_two hA'
  refine row_of (n := 8) Tryz.laidOut (rt := 4) rfl (by kernel_rfl) rfl rfl rfl rfl ?_ ?_ (fun avs h => ?_) hval hW
  · exact of_decide_eq_true (by kernel_rfl)
  · exact of_decide_eq_true (by kernel_rfl)
  · have h' : TyAll Tryz.prog 8 [29, 39] avs := h
    cases h' with
    | cons h1 h2 =>
      cases h2 with
      | cons h2 h3 =>
        cases h3
        obtain ⟨ns, es, m, facts, fl, sd, rfl, k1, k2⟩ := tyv29 h1
        obtain ⟨ed, fc, rfl, k3, k4⟩ := tyTrail h2
        exact good.ok.sim _ _ _ _ _ _ (Nat.le_refl _) (lCheck k1 k4)

/-- The statement ExplodedCheck. -/
theorem tcheck_holds : Rows.ExplodedCheckSaid :=
  OpenClaim.holds_of_wide 4 Tryz.f4 rfl rfl rfl rfl rfl rfl rfl ⟨rfl, rfl, rfl, rfl, rfl⟩ rfl rfl rfl rfl rfl (by kernel_rfl) Tryz.func4 (by kernel_rfl)
    (of_decide_eq_true (by kernel_rfl)) (by unfold Func.isWrapper; first | (rw [if_pos (by decide +kernel)]; kernel_rfl) | (rw [if_neg (by decide +kernel)]; exact ⟨rfl, rfl⟩))
    (fun os started H enc _ => tcheck_lifted os started H enc)

end Go.Proofs.YtjmljgajhkbciaaGreat
