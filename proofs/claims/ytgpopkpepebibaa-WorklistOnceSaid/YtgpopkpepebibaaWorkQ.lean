/- The arguments of the Worklist's laws, and the row's form out of the evaluator's word. -/
import Derived.Test.YtgpopkpepebibaaWorkP
import Derived.Test.YtgpopkpepebibaaWorkN
import Derived.Test.YtgpopkpepebibaaChecked
set_option linter.unusedSimpArgs false
set_option linter.unusedVariables false
namespace Go.Can
open Go Go.Proofs Go.RowKit

theorem ty_ints {P : Program} {n : Nat} {e : TypeId} {k : IntKind} (he : P.underlying e = some (.int k)) : ∀ {xs : List (List AV)}, (∀ x ∈ xs, Ty P n e x) → ∃ l : List Int, xs.map (mkAV (isAggT P e)) = l.map (AV.int k) ∧ l.length = xs.length ∧ ∀ z ∈ l, (Lit.int k z).wf = true
  | [], _ => ⟨[], rfl, rfl, fun z hz => by simp at hz⟩
  | x :: xs, h => by
    obtain ⟨l, h1, h2, h3⟩ := ty_ints he (xs := xs) (fun y hy => h y (by simp [hy]))
    have hx := h x (by simp)
    cases n with
    | zero => exact hx.elim
    | succ n =>
      unfold Ty at hx
      rw [he] at hx
      obtain ⟨q, rfl, hq⟩ := hx
      have ha : isAggT P e = false := by simp [isAggT, he]
      refine ⟨q :: l, ?_, by simp [h2], fun z hz => ?_⟩
      · rw [List.map_cons, List.map_cons, h1, ha]; rfl
      · rcases List.mem_cons.1 hz with rfl | hz
        · exact hq
        · exact h3 z hz

theorem ty22 {n : Nat} {cs : List AV} (h : Ty Try.prog (n + 1) 22 cs) : ∃ r l, cs = [r] ∧ Ls r l ∧ l.length ≤ maxLen := by
  unfold Ty at h
  rw [un22] at h
  obtain ⟨xs, rfl, h1, h2⟩ := h
  obtain ⟨l, e, e2, _⟩ := ty_ints un3 h2
  have hc : Try.prog.cellsOf 3 = 1 := by kernel_rfl
  rw [e, hc]
  exact ⟨_, l, rfl, .list, by omega⟩

theorem tyv22 {n : Nat} {a : AV} (h : TyV Try.prog (n + 1) 22 a) : ∃ l, Ls a l ∧ l.length ≤ maxLen := by
  obtain ⟨cs, h1, rfl⟩ := h
  obtain ⟨r, l, rfl, h2, h3⟩ := ty22 h1
  have ha : isAggT Try.prog 22 = false := by simp [isAggT, un22]
  rw [ha]
  exact ⟨l, h2, h3⟩

theorem tyv25 {n : Nat} {a : AV} (h : TyV Try.prog (n + 2) 25 a) : ∃ r it rank items, a = .agg [r, it] ∧ Ls r rank ∧ Ls it items := by
  obtain ⟨cs, h1, rfl⟩ := h
  obtain ⟨⟨p, q, rfl, h2, p1, q1, rfl, h3, rfl⟩, ha⟩ := ty_struct (ts := [22, 22]) (by kernel_rfl) h1
  rw [ha]
  obtain ⟨r, l1, rfl, k1, _⟩ := ty22 h2
  obtain ⟨it, l2, rfl, k2, _⟩ := ty22 h3
  exact ⟨r, it, l1, l2, rfl, k1, k2⟩

theorem tyv3 {n : Nat} {a : AV} (h : TyV Try.prog (n + 1) 3 a) : ∃ x, a = .int .i64 x := by
  obtain ⟨cs, h1, rfl⟩ := h
  unfold Ty at h1
  rw [un3] at h1
  obtain ⟨q, rfl, _⟩ := h1
  have ha : isAggT Try.prog 3 = false := by simp [isAggT, un3]
  rw [ha]
  exact ⟨q, rfl⟩

end Go.Can
