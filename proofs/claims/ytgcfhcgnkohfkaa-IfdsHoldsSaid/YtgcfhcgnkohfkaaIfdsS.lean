/- The statement IfdsHolds: for every solution, node and fact the law answers true, and leaves its arguments as they were. -/
import Derived.Test.YtgcfhcgnkohfkaaIfdsR
import Derived.Test.YtgcfhcgnkohfkaaCanY
import Derived.Test.YtgcfhcgnkohfkaaChecked
set_option linter.unusedSimpArgs false
set_option linter.unusedVariables false
set_option maxRecDepth 100000
namespace Go.Can
open Go Go.Proofs Go.RowKit

theorem ty_ints {P : Program} {n : Nat} {e : TypeId} {k : IntKind} (he : P.underlying e = some (.int k)) : ∀ {xs : List (List AV)}, (∀ x ∈ xs, Ty P n e x) → ∃ l : List Int, xs.map (mkAV (isAggT P e)) = l.map (AV.int k) ∧ l.length = xs.length ∧ ∀ z ∈ l, (Lit.int k z).wf = true
  | [], _ => ⟨[], rfl, rfl, fun z hz => by simp at hz⟩
  | x :: xs, h => by
    obtain ⟨l, h1, h2, h3⟩ := ty_ints he (xs := xs) (fun y hy => h y (by simp [hy]))
    have hx := h x (by simp)
    cases n with
    | zero => exact hx.elim
    | succ n =>
      unfold Ty at hx
      rw [he] at hx
      obtain ⟨q, rfl, hq⟩ := hx
      have ha : isAggT P e = false := by simp [isAggT, he]
      refine ⟨q :: l, ?_, by simp [h2], fun z hz => ?_⟩
      · rw [List.map_cons, List.map_cons, h1, ha]; rfl
      · rcases List.mem_cons.1 hz with rfl | hz
        · exact hq
        · exact h3 z hz

theorem ty_bools {P : Program} {n : Nat} {e : TypeId} (he : P.underlying e = some .bool) : ∀ {xs : List (List AV)}, (∀ x ∈ xs, Ty P n e x) → ∃ l : List Bool, xs.map (mkAV (isAggT P e)) = l.map AV.bool ∧ l.length = xs.length
  | [], _ => ⟨[], rfl, rfl⟩
  | x :: xs, h => by
    obtain ⟨l, h1, h2⟩ := ty_bools he (xs := xs) (fun y hy => h y (by simp [hy]))
    have hx := h x (by simp)
    cases n with
    | zero => exact hx.elim
    | succ n =>
      unfold Ty at hx
      rw [he] at hx
      obtain ⟨q, rfl⟩ := hx
      have ha : isAggT P e = false := by simp [isAggT, he]
      exact ⟨q :: l, by rw [List.map_cons, List.map_cons, h1, ha]; rfl, by simp [h2]⟩

theorem ty57 {n : Nat} {cs : List AV} (h : Ty Try.prog (n + 1) 57 cs) : ∃ l, cs = [.list false 1 (ints l)] ∧ l.length ≤ maxLen := by
  unfold Ty at h
  rw [un57] at h
  obtain ⟨xs, rfl, h1, h2⟩ := h
  obtain ⟨l, e, e2, _⟩ := ty_ints un3 h2
  have hc : Try.prog.cellsOf 3 = 1 := by kernel_rfl
  rw [e, hc]
  exact ⟨l, rfl, by omega⟩

theorem ty34 {n : Nat} {cs : List AV} (h : Ty Try.prog (n + 1) 34 cs) : ∃ bs : List Bool, cs = [.list false 1 (bs.map .bool)] := by
  unfold Ty at h
  rw [un34] at h
  obtain ⟨xs, rfl, h1, h2⟩ := h
  obtain ⟨l, e, e2⟩ := ty_bools un4 h2
  have hc : Try.prog.cellsOf 4 = 1 := by kernel_rfl
  rw [e, hc]
  exact ⟨l, rfl⟩

theorem facts_of {n : Nat} : ∀ {xs : List (List AV)}, (∀ x ∈ xs, Ty Try.prog (n + 1) 57 x) → ∃ fs : List (List Int), xs.map (mkAV (isAggT Try.prog 57)) = fs.map (fun l => AV.list false 1 (ints l)) ∧ ∀ l ∈ fs, l.length ≤ maxLen
  | [], _ => ⟨[], rfl, fun l hl => by simp at hl⟩
  | x :: xs, h => by
    obtain ⟨fs, h1, h2⟩ := facts_of (xs := xs) (fun y hy => h y (by simp [hy]))
    obtain ⟨l, rfl, h3⟩ := ty57 (h x (by simp))
    have ha : isAggT Try.prog 57 = false := by simp [isAggT, un57]
    refine ⟨l :: fs, by rw [List.map_cons, List.map_cons, h1, ha]; rfl, fun m hm => ?_⟩
    rcases List.mem_cons.1 hm with rfl | hm
    · exact h3
    · exact h2 m hm

theorem ty35 {n : Nat} {cs : List AV} (h : Ty Try.prog (n + 2) 35 cs) : ∃ fs : List (List Int), cs = [.list false 1 (fs.map fun l => .list false 1 (ints l))] ∧ ∀ l ∈ fs, l.length < 2^63 := by
  unfold Ty at h
  rw [un35] at h
  obtain ⟨xs, rfl, h1, h2⟩ := h
  obtain ⟨fs, e, h3⟩ := facts_of h2
  have hc : Try.prog.cellsOf 57 = 1 := by kernel_rfl
  rw [e, hc]
  refine ⟨fs, rfl, fun l hl => ?_⟩
  have := h3 l hl
  have h4 : maxLen < 2^63 := by decide
  omega

theorem tyv37 {n : Nat} {a : AV} (h : TyV Try.prog (n + 3) 37 a) : ∃ bs fs, a = solA bs fs ∧ ∀ l ∈ fs, l.length < 2^63 := by
  obtain ⟨cs, h1, rfl⟩ := h
  obtain ⟨⟨p, q, rfl, h2, p1, q1, rfl, h3, rfl⟩, ha⟩ := ty_struct (ts := [34, 35]) (by kernel_rfl) h1
  rw [ha]
  obtain ⟨bs, rfl⟩ := ty34 h2
  obtain ⟨fs, rfl, h4⟩ := ty35 h3
  exact ⟨bs, fs, rfl, h4⟩

theorem tyv3 {n : Nat} {a : AV} (h : TyV Try.prog (n + 1) 3 a) : ∃ x, a = .int .i64 x := by
  obtain ⟨cs, h1, rfl⟩ := h
  unfold Ty at h1
  rw [un3] at h1
  obtain ⟨q, rfl, _⟩ := h1
  have ha : isAggT Try.prog 3 = false := by simp [isAggT, un3]
  rw [ha]
  exact ⟨q, rfl⟩

end Go.Can

namespace Go.Proofs.Ytgcfhcgnkohfkaa
open Go.ChangeShapes Go.WideShapes Go.ChangeAt Go.RowKit Go.Can

theorem Try.own : ownKnob Try.prog.godebug = none := by kernel_rfl
theorem Try.laidOut : laidOutB Try.prog = true := by kernel_rfl

set_option maxRecDepth 100000 in
theorem holds_lifted (os : Os) (started : os.Started) (H : Type) (enc : TypeId × Value → H) :
    ReturnsInHanded {} Try.checked os 4 .any (Rows.ifdsHoldsSpec.pre6 enc Try.prog Try.f4 Rows.ifdsHoldsRow.domain false) (Rows.ifdsHoldsSpec.post enc Try.prog Try.f4 false true false false) := by
  refine returnsInHanded_of_change (C := Try.checked) Try.own started (by kernel_rfl) Try.func4
    (ChangeSpec.witness6 (enc := enc) (C := Try.checked) false ⟨#[], #[.agg #[.slice none 0 0, .slice none 0 0], .int .i64 0, .int .i64 0], []⟩ 8 (by kernel_rfl) (by kernel_rfl) (by kernel_rfl) (by kernel_rfl)) ?_
  intro W base args ds gs before hval hW _ _
  have hW2 := hW
  obtain ⟨p, q, hA, hV, _⟩ := hW2
  obtain ⟨rfl, rfl⟩ := trodVars_none hV
  have hA' : DataW.TrodAll enc Try.prog W 0 (fun _ => true) true [37, 3, 3] args.toList ds p := hA
  obtain ⟨v0, v1, v2, d0, d1, d2, p0, p1, p2, rfl, rfl, rfl, _, _, _⟩ := trodAll_three hA'
  refine row_of (n := 5) Try.laidOut (rt := 4) rfl un4 rfl rfl rfl rfl ?_ ?_ (fun avs h => ?_) hval hW
  · exact of_decide_eq_true (by kernel_rfl)
  · exact of_decide_eq_true (by kernel_rfl)
  · have h' : TyAll Try.prog 5 [37, 3, 3] avs := h
    cases h' with
    | cons h1 h2 =>
      cases h2 with
      | cons h2 h3 =>
        cases h3 with
        | cons h3 h4 =>
          cases h4
          obtain ⟨bs, fs, rfl, k1⟩ := tyv37 h1
          obtain ⟨n, rfl⟩ := tyv3 h2
          obtain ⟨d, rfl⟩ := tyv3 h3
          exact good.ok.sim _ _ _ _ _ _ (Nat.le_refl _) (l4 k1)

/-- The statement IfdsHolds. -/
theorem holds_holds : Rows.IfdsHoldsSaid :=
  OpenClaim.holds_of_wide 4 Try.f4 rfl rfl rfl rfl rfl rfl rfl ⟨rfl, rfl, rfl, rfl, rfl⟩ rfl rfl rfl rfl rfl (by kernel_rfl) Try.func4 (by kernel_rfl)
    (of_decide_eq_true (by kernel_rfl)) (by unfold Func.isWrapper; first | (rw [if_pos (by decide +kernel)]; kernel_rfl) | (rw [if_neg (by decide +kernel)]; exact ⟨rfl, rfl⟩))
    (fun os started H enc _ => holds_lifted os started H enc)

end Go.Proofs.Ytgcfhcgnkohfkaa
