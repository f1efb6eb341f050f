/- slices.SortFunc of edges: the comparison walked. slices.SortFunc of edges: the comparison of edges walked. -/
import Derived.Test.YtjmljgajhkbciaaGreatIfdsT
import Derived.StillTailTactics
set_option linter.unusedSimpArgs false
set_option linter.unusedVariables false
namespace Go.Can
open Go Go.Proofs Go.RowKit Go.Shelf

set_option maxHeartbeats 4000000 in
set_option maxRecDepth 100000 in
theorem w46 (a : Int) (W : World) : Calls Tryz.prog 57 #[.int .i64 a] W fun e w' => e = .returned (.bool false) ∧ w' = W := by
  go_enter Tryz.func57, Tryz.ntmps57
  go_wp2
  go_ret
  exact ⟨by simp, rfl⟩

set_option maxHeartbeats 4000000 in
set_option maxRecDepth 100000 in
theorem w23 (a b : Int) (W : World) : Calls Tryz.prog 35 #[.int .i64 a, .int .i64 b] W fun e w' => e = .returned (.int .i64 (cmpI a b)) ∧ w' = W := by
  have h46 := w46
  go_enter Tryz.func35, Tryz.ntmps35
  go_wp2_with (go_at_call 57; refine (h46 _ _).mono ?_; rintro e w' ⟨rfl, rfl⟩)
  all_goals go_ret
  all_goals refine ⟨?_, rfl⟩
  all_goals first
    | (rw [show cmpI a b = -1 by unfold cmpI; repeat' split; all_goals omega]; rfl)
    | (rw [show cmpI a b = 1 by unfold cmpI; repeat' split; all_goals omega]; rfl)
    | (rw [show cmpI a b = 0 by unfold cmpI; repeat' split; all_goals omega]; rfl)

set_option maxHeartbeats 8000000 in
set_option maxRecDepth 100000 in
theorem w22 (a b c d : Int) (W : World) (g cap : Nat) (h0 : W.cell? ⟨g, 0, none⟩ = some (.int .i64 a)) (h1 : W.cell? ⟨g, 1, none⟩ = some (.int .i64 b)) (h2 : W.cell? ⟨g, 2, none⟩ = some (.int .i64 c)) (h3 : W.cell? ⟨g, 3, none⟩ = some (.int .i64 d)) : Calls Tryz.prog 34 #[.slice (some ⟨g, 0, none⟩) 4 cap] W fun e w' => e = .returned (.int .i64 (orI [a, b, c, d])) ∧ w' = W := by
  go_enter Tryz.func34, Tryz.ntmps34
  go_wp2
  refine wp_loop_rounds 5 ?_
  rw [rounds_succ]
  go_wp2
  · go_ret
    refine ⟨?_, rfl⟩
    clear h0 h1 h2 h3
    (first | (rw [show orI [a, b, c, d] = a by simp_all [orI]]; rfl) | (rw [show orI [a, b, c, d] = b by simp_all [orI]]; rfl) | (rw [show orI [a, b, c, d] = c by simp_all [orI]]; rfl) | (rw [show orI [a, b, c, d] = d by simp_all [orI]]; rfl) | (rw [show orI [a, b, c, d] = 0 by simp_all [orI]]; rfl))
  rw [rounds_succ]
  go_wp2
  · go_ret
    refine ⟨?_, rfl⟩
    clear h0 h1 h2 h3
    (first | (rw [show orI [a, b, c, d] = a by simp_all [orI]]; rfl) | (rw [show orI [a, b, c, d] = b by simp_all [orI]]; rfl) | (rw [show orI [a, b, c, d] = c by simp_all [orI]]; rfl) | (rw [show orI [a, b, c, d] = d by simp_all [orI]]; rfl) | (rw [show orI [a, b, c, d] = 0 by simp_all [orI]]; rfl))
  rw [rounds_succ]
  go_wp2
  · go_ret
    refine ⟨?_, rfl⟩
    clear h0 h1 h2 h3
    (first | (rw [show orI [a, b, c, d] = a by simp_all [orI]]; rfl) | (rw [show orI [a, b, c, d] = b by simp_all [orI]]; rfl) | (rw [show orI [a, b, c, d] = c by simp_all [orI]]; rfl) | (rw [show orI [a, b, c, d] = d by simp_all [orI]]; rfl) | (rw [show orI [a, b, c, d] = 0 by simp_all [orI]]; rfl))
  rw [rounds_succ]
  go_wp2
  · go_ret
    refine ⟨?_, rfl⟩
    clear h0 h1 h2 h3
    (first | (rw [show orI [a, b, c, d] = a by simp_all [orI]]; rfl) | (rw [show orI [a, b, c, d] = b by simp_all [orI]]; rfl) | (rw [show orI [a, b, c, d] = c by simp_all [orI]]; rfl) | (rw [show orI [a, b, c, d] = d by simp_all [orI]]; rfl) | (rw [show orI [a, b, c, d] = 0 by simp_all [orI]]; rfl))
  rw [rounds_succ]
  go_wp2
  go_ret
  refine ⟨?_, rfl⟩
  clear h0 h1 h2 h3
  (first | (rw [show orI [a, b, c, d] = a by simp_all [orI]]; rfl) | (rw [show orI [a, b, c, d] = b by simp_all [orI]]; rfl) | (rw [show orI [a, b, c, d] = c by simp_all [orI]]; rfl) | (rw [show orI [a, b, c, d] = d by simp_all [orI]]; rfl) | (rw [show orI [a, b, c, d] = 0 by simp_all [orI]]; rfl))

end Go.Can

namespace Go.Can
open Go Go.Proofs Go.RowKit Go.Shelf

theorem two_cells {W : World} {A B : Array Value} {t : TypeId} {j : Nat} : ((W.alloc (.cells A t)).alloc (.cells B t)).drew.cell? ⟨W.heap.size, j, none⟩ = A[j]? ∧ ((W.alloc (.cells A t)).alloc (.cells B t)).drew.cell? ⟨W.heap.size + 1, j, none⟩ = B[j]? := by
  have h : ((W.alloc (.cells A t)).alloc (.cells B t)).drew.heap = (W.heap.push (.cells A t)).push (.cells B t) := rfl
  constructor
  · unfold World.cell?
    rw [h]
    simp only [Array.getElem?_push, Array.size_push]
    simp
  · unfold World.cell?
    rw [h]
    simp only [Array.getElem?_push, Array.size_push]
    simp

theorem two_grow {W : World} {A B C : Obj} : ∃ q os', ((W.alloc A).alloc B).drew.alloc C = Go.Sort.grow (W.drewN q) os' := by
  refine ⟨1, #[A, B, C], ?_⟩
  show ({ W with heap := ((W.heap.push A).push B).push C, drawn := W.drawn + 1 } : World) = { W with heap := W.heap ++ #[A, B, C], drawn := W.drawn + 1 }
  congr 1

theorem w22' (a b c d : Int) (W : World) (t : TypeId) : Calls Tryz.prog 34 #[.slice (some ⟨W.heap.size, 0, none⟩) 4 4] (W.alloc (.cells #[.int .i64 a, .int .i64 b, .int .i64 c, .int .i64 d] t)) fun e w' => e = .returned (.int .i64 (orI [a, b, c, d])) ∧ w' = W.alloc (.cells #[.int .i64 a, .int .i64 b, .int .i64 c, .int .i64 d] t) := by
  have h : (W.alloc (.cells #[.int .i64 a, .int .i64 b, .int .i64 c, .int .i64 d] t)).heap = W.heap.push (.cells #[.int .i64 a, .int .i64 b, .int .i64 c, .int .i64 d] t) := rfl
  refine w22 a b c d _ _ _ ?_ ?_ ?_ ?_
  all_goals
    unfold World.cell?
    rw [h]
    simp only [Array.getElem?_push]
    simp

set_option maxHeartbeats 8000000 in
set_option maxRecDepth 100000 in
theorem w62 (x y : ED) (W : World) : Calls Tryz.prog 77 #[.agg (encE x).toArray, .agg (encE y).toArray] W fun e w' => e = .returned (.int .i64 (cmpE x y)) ∧ ∃ q os', w' = Go.Sort.grow (W.drewN q) os' := by
  have h23 := w23
  obtain ⟨x1, x2, x3, x4⟩ := x
  obtain ⟨y1, y2, y3, y4⟩ := y
  simp only [encE]
  go_enter Tryz.func77, Tryz.ntmps77
  go_wp2_with fail
  have a1 := (two_cells (W := W) (A := #[Value.int IntKind.i64 x1, Value.int IntKind.i64 x2, Value.int IntKind.i64 x3, Value.int IntKind.i64 x4]) (B := #[Value.int IntKind.i64 y1, Value.int IntKind.i64 y2, Value.int IntKind.i64 y3, Value.int IntKind.i64 y4]) (t := 70) (j := 0))
  have a2 := (two_cells (W := W) (A := #[Value.int IntKind.i64 x1, Value.int IntKind.i64 x2, Value.int IntKind.i64 x3, Value.int IntKind.i64 x4]) (B := #[Value.int IntKind.i64 y1, Value.int IntKind.i64 y2, Value.int IntKind.i64 y3, Value.int IntKind.i64 y4]) (t := 70) (j := 1))
  have a3 := (two_cells (W := W) (A := #[Value.int IntKind.i64 x1, Value.int IntKind.i64 x2, Value.int IntKind.i64 x3, Value.int IntKind.i64 x4]) (B := #[Value.int IntKind.i64 y1, Value.int IntKind.i64 y2, Value.int IntKind.i64 y3, Value.int IntKind.i64 y4]) (t := 70) (j := 2))
  have a4 := (two_cells (W := W) (A := #[Value.int IntKind.i64 x1, Value.int IntKind.i64 x2, Value.int IntKind.i64 x3, Value.int IntKind.i64 x4]) (B := #[Value.int IntKind.i64 y1, Value.int IntKind.i64 y2, Value.int IntKind.i64 y3, Value.int IntKind.i64 y4]) (t := 70) (j := 3))
  have hgr := fun C => two_grow (W := W) (A := .cells #[Value.int IntKind.i64 x1, Value.int IntKind.i64 x2, Value.int IntKind.i64 x3, Value.int IntKind.i64 x4] 70) (B := .cells #[Value.int IntKind.i64 y1, Value.int IntKind.i64 y2, Value.int IntKind.i64 y3, Value.int IntKind.i64 y4] 70) (C := C)
  generalize (W.alloc (Obj.cells #[Value.int IntKind.i64 x1, Value.int IntKind.i64 x2, Value.int IntKind.i64 x3, Value.int IntKind.i64 x4] 70)).alloc (Obj.cells #[Value.int IntKind.i64 y1, Value.int IntKind.i64 y2, Value.int IntKind.i64 y3, Value.int IntKind.i64 y4] 70) = W1 at *
  refine wp_region_still_tail 20 (by kernel_rfl) (by kernel_rfl) ?_
  simp only [List.take_succ_cons, List.take_zero, List.drop_succ_cons, List.drop_zero]
  change wpStill Tryz.prog _ W1.drew (fun a' => wpList Tryz.prog _ _ _ a' W1.drew) _ _
  generalize W1.drew = W2 at *
  obtain ⟨c1, d1⟩ := a1
  obtain ⟨c2, d2⟩ := a2
  obtain ⟨c3, d3⟩ := a3
  obtain ⟨c4, d4⟩ := a4
  replace c1 : W2.cell? ⟨W.heap.size, 0, none⟩ = some (.int .i64 x1) := c1
  replace c2 : W2.cell? ⟨W.heap.size, 1, none⟩ = some (.int .i64 x2) := c2
  replace c3 : W2.cell? ⟨W.heap.size, 2, none⟩ = some (.int .i64 x3) := c3
  replace c4 : W2.cell? ⟨W.heap.size, 3, none⟩ = some (.int .i64 x4) := c4
  replace d1 : W2.cell? ⟨W.heap.size + 1, 0, none⟩ = some (.int .i64 y1) := d1
  replace d2 : W2.cell? ⟨W.heap.size + 1, 1, none⟩ = some (.int .i64 y2) := d2
  replace d3 : W2.cell? ⟨W.heap.size + 1, 2, none⟩ = some (.int .i64 y3) := d3
  replace d4 : W2.cell? ⟨W.heap.size + 1, 3, none⟩ = some (.int .i64 y4) := d4
  repeat still_step
  still_call (w23 _ _ _)
  repeat still_step
  still_call (w23 _ _ _)
  repeat still_step
  still_call (w23 _ _ _)
  repeat still_step
  still_call (w23 _ _ _)
  refine wpStill_nil ?_
  have h22 := w22' (cmpI x1 y1) (cmpI x2 y2) (cmpI x3 y3) (cmpI x4 y4) W2
  clear c1 c2 c3 c4 d1 d2 d3 d4
  go_wp2_with (go_at_call 34; refine (h22 _).mono ?_; rintro e w' ⟨rfl, rfl⟩)
  go_ret
  exact ⟨rfl, hgr _⟩

end Go.Can
