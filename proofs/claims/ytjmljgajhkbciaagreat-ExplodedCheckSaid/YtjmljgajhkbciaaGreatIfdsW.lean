/- checkNodes: the range over the map walked; put together. -/
import Derived.Test.YtjmljgajhkbciaaGreatIfdsN
import Derived.Maps.RangeRun
import Derived.LoopTactic
import Derived.WalkKit
import Derived.LoopN
set_option linter.unusedSimpArgs false
set_option linter.unusedVariables false
namespace Go.Can
open Go Go.Proofs Go.RowKit

set_option maxRecDepth 100000 in
set_option maxHeartbeats 4000000 in
theorem exec38 {fl : Bool} {ns : List (Int × Int × Int)} (hlen : ns.length < 2^63) :
    (scanN none ns = 0 → ∃ env : Env, execC (rgT Tryz.prog cf0 (callL Tryz.prog cf0) 0 49) (mkT cf0 49) loopL a38 (startE 84 [.list fl 3 (ns.map nodeA)], []) = some (.normal, env, [.map ((kinds [] ns).map entA)]) ∧ env.length = 84 ∧ env[3]? = some (.val (.map (some 0)))) ∧
    (¬ scanN none ns = 0 → ∃ (env : Env) (σ' : St), execC (rgT Tryz.prog cf0 (callL Tryz.prog cf0) 0 49) (mkT cf0 49) loopL a38 (startE 84 [.list fl 3 (ns.map nodeA)], []) = some (.ret, env, σ') ∧ env.length = 84 ∧ env[2]? = some (.val (.int .i64 (scanN none ns)))) := by
  have key0 := loop38 (fl := fl) hlen ns.length 0 none [] (by omega) rfl (fun f => by simp [getC])
  rw [List.drop_zero] at key0
  obtain ⟨s1, s2⟩ := scanK_spec (l := ns) (p := none) (E := [])
  rw [s1] at key0
  have hl : lenS (.list fl 3 (ns.map nodeA)) = some ns.length := by simp [lenS]
  rw [show ((0 : Nat) : Int) = 0 from rfl, List.map_nil] at key0
  simp only [loopOf, findLoop, regOf, Option.getD, envOf, List.range, List.range.loop, go_sem, Nat.reduceBEq, Nat.reduceEqDiff, Option.some.injEq, reduceCtorEq, envS, Tryz.f49] at key0
  constructor
  · intro h
    rw [s2 h] at key0
    simp only [h, if_true] at key0
    refine ⟨?e, ?h1, ?h2, ?h3⟩
    case h1 =>
      simp only [a38, k38, fstOf, sndOf, Tryz.f49, Option.getD_some, go_sem, Nat.reduceBEq, Nat.reduceAdd, Nat.reduceSub, Nat.reduceEqDiff, Nat.reduceLeDiff, Nat.reduceMul, rgT, z_regionT, allocs, isv?, z_step, z_stepE, okDst, wantedA, evalOp, evalV, evalS, storeAt, look, ofV, ofC, putA, clearA, lookV, lookVs, lookParts, adrOk, baseAt, baseOf, loadAt, partA, binA, unA, resOf, mkRes, envOf, List.range, List.range.loop, evalBuiltin, liveW, regOf, startE, optN, mapGet, mapPut, orZero, keyOk, cellOk, decide_eq_true_eq, Bool.not_eq_true', decide_eq_false_iff_not, ite_not, not_true_eq_false, not_false_eq_true, reduceCtorEq, and_true, true_and, and_self, hl, key0]
      rfl
    case h2 => rfl
    case h3 => rfl
  · intro h
    simp only [h, if_false] at key0
    refine ⟨?e2, ?f2, ?g1, ?g2, ?g3⟩
    case g1 =>
      simp only [a38, k38, fstOf, sndOf, Tryz.f49, Option.getD_some, go_sem, Nat.reduceBEq, Nat.reduceAdd, Nat.reduceSub, Nat.reduceEqDiff, Nat.reduceLeDiff, Nat.reduceMul, rgT, z_regionT, allocs, isv?, z_step, z_stepE, okDst, wantedA, evalOp, evalV, evalS, storeAt, look, ofV, ofC, putA, clearA, lookV, lookVs, lookParts, adrOk, baseAt, baseOf, loadAt, partA, binA, unA, resOf, mkRes, envOf, List.range, List.range.loop, evalBuiltin, liveW, regOf, startE, optN, mapGet, mapPut, orZero, keyOk, cellOk, decide_eq_true_eq, Bool.not_eq_true', decide_eq_false_iff_not, ite_not, not_true_eq_false, not_false_eq_true, reduceCtorEq, and_true, true_and, and_self, hl, key0]
      rfl
    case g2 => rfl
    case g3 => rfl

theorem setBlock_at {w : World} {r : Nat} {o x : Obj} (h : w.heap[r]? = some x) : (ChangeMaps.setBlock w r o).heap[r]? = some o := by
  have hlt := (Array.getElem?_eq_some_iff.1 h).1
  simp [ChangeMaps.setBlock, hlt]
theorem setBlock_not {w : World} {r k : Nat} {o : Obj} (h : k ≠ r) : (ChangeMaps.setBlock w r o).heap[k]? = w.heap[k]? := by
  simp [ChangeMaps.setBlock, Array.getElem?_setIfInBounds, Ne.symm h]

theorem iter_set {w : World} {r : Nat} {x : Obj} {a : Option Nat} {b : Nat} {s : Array Nat} {c : Nat} (h : w.heap[r]? = some x) : (ChangeMaps.setBlock w r (.mapIter a b s c)).iterSeen r = s := by
  unfold World.iterSeen
  rw [setBlock_at h]

set_option maxHeartbeats 8000000 in
set_option maxRecDepth 100000 in
/-- The rest: one if an entry's count is not three, else zero. -/
theorem rest38 {w : World} {g clock : Nat} {us : Array MapEntry} {tmps : Array Value} {Q : Exit → Act → World → Prop} (hsz : tmps.size = 84) (h3 : tmps.getD 3 undef = .map (some g)) (hb : w.heap[g]? = some (.map us clock)) (hbn : Born us clock) (hv : ∀ x ∈ us.toList, ∃ v, x.val = .int .i64 v)
    (hQ : ∀ tmps' (w' : World), Below w.heap.size w w' → tmps'.getD 2 undef = .int .i64 (if (us.toList.any fun x => decide (¬ valOf x.val = 3)) = true then 1 else 0) → tmps'.size = 84 → Q .ret ⟨tmps', []⟩ w') : b38.wp Tryz.prog Q ⟨tmps, []⟩ w := by
  rw [arr_lit hsz]
  show Code.wp _ (sndOf (sndOf (sndOf ((Tryz.f49.body).getD .skip)))) _ _ _
  simp only [Tryz.f49, Option.getD_some, sndOf]
  simp only [List.range, List.range.loop, List.map_cons, List.map_nil, h3]
  generalize tmps.getD 0 undef = x0
  clear hsz h3
  have hrg := run_range_map (P := Tryz.prog) w 107 3 3 g us clock (by kernel_rfl) hb
  have hgl : g < w.heap.size := (Array.getElem?_eq_some_iff.1 hb).1
  go_wp2
  go_loopw [] (fun W => Below w.heap.size w W ∧ ∃ seen c0, W.heap[w.heap.size]? = some (.mapIter (some g) clock seen c0) ∧ clock ≤ c0 ∧ ∀ x ∈ us.toList, seen.contains x.born = true → valOf x.val = 3) (fun W => (leftOf us (W.iterSeen w.heap.size)).size)
  case atStart =>
    refine ⟨(Below.refl _ w).alloc (Nat.le_refl _) _, #[], clock, heap_alloc_new w _, Nat.le_refl _, fun x _ h => by simp at h⟩
  case round =>
    obtain ⟨hbel, seen, c0, hit, hc0, hno⟩ := hrel
    have hb1 : wr.heap[g]? = some (.map us clock) := by rw [hbel.block g hgl]; exact hb
    have law := run_next_at (P := Tryz.prog) wr 0 w.heap.size g clock c0 seen us clock hit hb1 hbn.1 hc0
    rcases law with ⟨h0, hrun⟩ | ⟨e, he, w2, hw2, hrun⟩
    · have hnx : ∀ ty, (Instr.next (.pointer (some ⟨w.heap.size, 0, none⟩)) false ty).run Tryz.prog wr = _ := fun _ => hrun
      have hf : (us.toList.any fun x => decide (¬ valOf x.val = 3)) = false := by
        rw [List.any_eq_false]
        intro x hx
        have := hno x hx (all_seen us seen h0 x hx)
        simpa using this
      rw [hf] at hQ
      go_wp2
      exact hQ _ _ hbel rfl rfl
    · obtain ⟨v, hval⟩ := hv e (mem_left he).1
      rw [hval] at hrun
      have hit2 : w2.heap[w.heap.size]? = some (.mapIter (some g) clock seen c0) := by rcases hw2 with rfl | rfl <;> exact hit
      have hbel2 : Below w.heap.size w w2 := by rcases hw2 with rfl | rfl
                                                · exact hbel
                                                · exact hbel.drew
      have hne : g ≠ w.heap.size := by omega
      have hb2 : w2.heap[g]? = some (.map us clock) := by rw [hbel2.block g hgl]; exact hb
      have hset : Below w.heap.size w (ChangeMaps.setBlock w2 w.heap.size (.mapIter (some g) clock (seen.push e.born) clock)) :=
        ⟨hbel2.os, hbel2.tape, hbel2.output, by simpa [ChangeMaps.setBlock] using hbel2.size, fun k hk => by rw [setBlock_not (by omega)]; exact hbel2.block k hk⟩
      have hit3 := setBlock_at (o := .mapIter (some g) clock (seen.push e.born) clock) hit2
      have hb3 : (ChangeMaps.setBlock w2 w.heap.size (.mapIter (some g) clock (seen.push e.born) clock)).heap[g]? = some (.map us clock) := by rw [setBlock_not hne]; exact hb2
      have hen := run_entry_at (P := Tryz.prog) _ w.heap.size g clock seen us clock e hit3 hb3 (mem_left he).1 hbn.2
      rw [hval] at hen
      have hms : (leftOf us ((ChangeMaps.setBlock w2 w.heap.size (.mapIter (some g) clock (seen.push e.born) clock)).iterSeen w.heap.size)).size < (leftOf us (wr.iterSeen w.heap.size)).size := by
        rw [iter_set hit2]
        have e1 : wr.iterSeen w.heap.size = seen := by unfold World.iterSeen; rw [hit]
        rw [e1]
        exact left_shrinks us seen e he
      generalize ChangeMaps.setBlock w2 w.heap.size (.mapIter (some g) clock (seen.push e.born) clock) = w3 at *
      have hnx : ∀ ty, (Instr.next (.pointer (some ⟨w.heap.size, 0, none⟩)) false ty).run Tryz.prog wr = _ := fun _ => hrun
      go_wp2
      · rename_i hne3
        have ht : (us.toList.any fun x => decide (¬ valOf x.val = 3)) = true := List.any_eq_true.2 ⟨e, (mem_left he).1, by rw [hval]; exact decide_eq_true (by simpa [valOf] using hne3)⟩
        rw [ht] at hQ
        exact hQ _ _ hset rfl rfl
      · rename_i heq
        go_roundw
        case rel =>
          refine ⟨hset, seen.push e.born, clock, hit3, Nat.le_refl _, fun x hx hc => ?_⟩
          rw [contains_push] at hc
          rcases Bool.or_eq_true _ _ ▸ hc with h1 | h1
          · exact hno x hx h1
          · have : x = e := born_inj hbn.2 hx (mem_left he).1 (beq_iff_eq.1 h1)
            subst this
            rw [hval]
            simpa [valOf] using heq
        case measure => exact hms

end Go.Can
