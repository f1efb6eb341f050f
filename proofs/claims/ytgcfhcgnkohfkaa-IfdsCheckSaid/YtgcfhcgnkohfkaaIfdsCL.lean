/- The closed examples, evaluated by the kernel. The law IfdsCheck: true for every problem. The statement IfdsCheck: for every problem the law answers true, and leaves its arguments as they were. -/
import Derived.Test.YtgcfhcgnkohfkaaIfdsA
import Derived.Test.YtgcfhcgnkohfkaaIfdsCJ
import Derived.Test.YtgcfhcgnkohfkaaIfdsQ
import Derived.Test.YtgcfhcgnkohfkaaCanY
import Derived.Test.YtgcfhcgnkohfkaaChecked
set_option linter.unusedSimpArgs false
set_option linter.unusedVariables false
namespace Go.Can
open Go Go.Proofs

set_option maxRecDepth 1000000 in
theorem knows30 : callN Try.prog cfI 40 9 [] [] 0 = some (.bool true, []) := by kernel_rfl

end Go.Can

namespace Go.Can
open Go Go.Proofs

theorem callN_nullary {P : Program} {cf : Cfg} {n : Nat} {f : FuncId} {v : AV} (h : callN P cf (n + 1) f [] [] 0 = some (v, [])) (hp : cf.prim f = none) (hpu : cf.pure f = true) (σ : St) (base : Nat) : callL P cf f [] σ base = some (v, σ) := by
  refine callL_iff.2 ⟨n + 1, ?_⟩
  show enterA P cf (callN P cf n) (fun b s => loopN b n s) f [] σ base = some (v, σ)
  have h' : enterA P cf (callN P cf n) (fun b s => loopN b n s) f [] [] 0 = some (v, []) := h
  unfold enterA at h' ⊢
  cases hf : P.funcs[f]? with
  | none => simp only [hp, hf] at h'; cases h'
  | some fn =>
    cases hc : fn.body with
    | none => simp only [hp, hf, hc] at h'; cases h'
    | some c =>
      simp only [hp, hf, hc, hpu, if_true, List.isEmpty_nil] at h' ⊢
      split at h'
      · rename_i v1 s1 hb
        split at h'
        · rename_i v2 hz
          cases h'
          simp only [hb, hz]
        · cases h'
      · cases h'

theorem c9 {σ : St} {base : Nat} : callL Try.prog cfI 9 [] σ base = some (.bool true, σ) := callN_nullary knows30 rfl rfl σ base

set_option maxRecDepth 100000 in
set_option maxHeartbeats 4000000 in
theorem l3 {ns : List ND} {es : List ED} {m facts : Int} {fl : List (List PD)} {sd : List PD} (hfl : fl.length < 2^63) (hsd : sd.length < 2^63) :
    callL Try.prog cfI 3 [.agg (probC ns es m facts fl sd)] [] 0 = some (.bool true, []) := by
  have h7 := fun b => c7 (σ := []) (base := b) (ns := ns) (es := es) (m := m) (facts := facts) hfl hsd
  have h8 := fun b => c8 (σ := []) (base := b) (ns := ns) (es := es) (m := m) (facts := facts) hfl hsd
  have h9 := fun b => c9 (σ := []) (base := b)
  refine callL_pure (σ' := []) (v := .bool true) Try.func3 rfl (by kernel_rfl) rfl rfl (by simp) ?_ rfl
  rw [z_body]
  generalize checkErr ns es m facts fl sd = q at *
  unfold probC at *
  generalize fl.map flA = A at *
  generalize sd.map pairA = B at *
  generalize es.map edgeA = D at *
  generalize ns.map nodeA = N at *
  simp (config := { maxSteps := 4000000 }) only [Try.f3, go_sem, Nat.reduceBEq, Nat.reduceAdd, Nat.reduceSub, Nat.reduceEqDiff, Nat.reduceLeDiff, Nat.reduceMul, rgT, z_regionT, allocs, isv?, z_step, z_stepE, okDst, wantedA, evalOp, evalV, evalS, storeAt, look, ofV, ofC, putA, clearA, lookV, lookVs, lookParts, adrOk, baseAt, baseOf, loadAt, partA, binA, unA, resOf, mkRes, envOf, List.range, List.range.loop, evalBuiltin, liveW, regOf, startE, optN, mapGet, mapPut, orZero, keyOk, cellOk, decide_eq_true_eq, Bool.not_eq_true', decide_eq_false_iff_not, ite_not, not_true_eq_false, not_false_eq_true, reduceCtorEq, and_true, true_and, and_self, h7, h8, h9, beq_self_eq_true]

end Go.Can

set_option maxRecDepth 100000
namespace Go.Can
open Go Go.Proofs Go.RowKit

theorem ty_int3 {n : Nat} {cs : List AV} (h : Ty Try.prog (n + 1) 3 cs) : ∃ q, cs = [.int .i64 q] := by
  unfold Ty at h
  rw [un3] at h
  obtain ⟨q, rfl, _⟩ := h
  exact ⟨q, rfl⟩

theorem ty_node {n : Nat} {cs : List AV} (h : Ty Try.prog (n + 2) 90 cs) : ∃ x : ND, mkAV (isAggT Try.prog 90) cs = nodeA x := by
  obtain ⟨⟨p, q, rfl, h1, p1, q1, rfl, h2, p2, q2, rfl, h3, rfl⟩, ha⟩ := ty_struct (ts := [3, 3, 3]) (by kernel_rfl) h
  obtain ⟨a, rfl⟩ := ty_int3 h1
  obtain ⟨b, rfl⟩ := ty_int3 h2
  obtain ⟨c, rfl⟩ := ty_int3 h3
  rw [ha]
  exact ⟨(a, b, c), rfl⟩

theorem ty_edge {n : Nat} {cs : List AV} (h : Ty Try.prog (n + 2) 93 cs) : ∃ x : ED, mkAV (isAggT Try.prog 93) cs = edgeA x := by
  obtain ⟨⟨p, q, rfl, h1, p1, q1, rfl, h2, p2, q2, rfl, h3, p3, q3, rfl, h4, rfl⟩, ha⟩ := ty_struct (ts := [3, 3, 3, 3]) (by kernel_rfl) h
  obtain ⟨a, rfl⟩ := ty_int3 h1
  obtain ⟨b, rfl⟩ := ty_int3 h2
  obtain ⟨c, rfl⟩ := ty_int3 h3
  obtain ⟨d, rfl⟩ := ty_int3 h4
  rw [ha]
  exact ⟨(a, b, c, d), rfl⟩

theorem ty_pair {n : Nat} {cs : List AV} (h : Ty Try.prog (n + 2) 41 cs) : ∃ x : PD, mkAV (isAggT Try.prog 41) cs = pairA x := by
  obtain ⟨⟨p, q, rfl, h1, p1, q1, rfl, h2, rfl⟩, ha⟩ := ty_struct (ts := [3, 3]) (by kernel_rfl) h
  obtain ⟨a, rfl⟩ := ty_int3 h1
  obtain ⟨b, rfl⟩ := ty_int3 h2
  rw [ha]
  exact ⟨(a, b), rfl⟩

theorem ty_seed {n : Nat} {cs : List AV} (h : Ty Try.prog (n + 2) 52 cs) : ∃ x : PD, mkAV (isAggT Try.prog 52) cs = pairA x := by
  obtain ⟨⟨p, q, rfl, h1, p1, q1, rfl, h2, rfl⟩, ha⟩ := ty_struct (ts := [3, 3]) (by kernel_rfl) h
  obtain ⟨a, rfl⟩ := ty_int3 h1
  obtain ⟨b, rfl⟩ := ty_int3 h2
  rw [ha]
  exact ⟨(a, b), rfl⟩

theorem map_all {α : Type} {P : List AV → Prop} {f : List AV → AV} {g : α → AV} (hf : ∀ x, P x → ∃ y, f x = g y) : ∀ {xs : List (List AV)}, (∀ x ∈ xs, P x) → ∃ l : List α, xs.map f = l.map g ∧ l.length = xs.length
  | [], _ => ⟨[], rfl, rfl⟩
  | x :: xs, h => by
    obtain ⟨l, h1, h2⟩ := map_all hf (xs := xs) (fun y hy => h y (by simp [hy]))
    obtain ⟨y, hy⟩ := hf x (h x (by simp))
    exact ⟨y :: l, by rw [List.map_cons, List.map_cons, h1, hy], by simp [h2]⟩

theorem ty_list {α : Type} {n : Nat} {t e : TypeId} {sz : Nat} {g : α → AV} {cs : List AV} (ht : Try.prog.underlying t = some (.slice e)) (hc : Try.prog.cellsOf e = sz) (hf : ∀ x, Ty Try.prog n e x → ∃ y, mkAV (isAggT Try.prog e) x = g y) (h : Ty Try.prog (n + 1) t cs) :
    ∃ l : List α, cs = [.list false sz (l.map g)] ∧ l.length < 2^63 := by
  unfold Ty at h
  rw [ht] at h
  obtain ⟨xs, rfl, h1, h2⟩ := h
  obtain ⟨l, h3, h4⟩ := map_all hf h2
  rw [h3, hc]
  have : maxLen < 2^63 := by decide
  exact ⟨l, rfl, by omega⟩

theorem ty_flow {n : Nat} {cs : List AV} (h : Ty Try.prog (n + 3) 45 cs) : ∃ y : List PD, mkAV (isAggT Try.prog 45) cs = flA y := by
  obtain ⟨l, rfl, _⟩ := ty_list (g := pairA) un45 (sz := 2) (by kernel_rfl) (fun x hx => ty_pair hx) h
  have ha : isAggT Try.prog 45 = false := by simp [isAggT, un45]
  rw [ha]
  exact ⟨l, rfl⟩

theorem tyv29 {n : Nat} {a : AV} (h : TyV Try.prog (n + 6) 29 a) : ∃ ns es m facts fl sd, a = .agg (probC ns es m facts fl sd) ∧ fl.length < 2^63 ∧ sd.length < 2^63 := by
  obtain ⟨cs, h1, rfl⟩ := h
  obtain ⟨⟨p, q, rfl, g1, p1, q1, rfl, g2, p2, q2, rfl, g3, p3, q3, rfl, g4, rfl⟩, ha⟩ := ty_struct (ts := [25, 3, 26, 27]) (by kernel_rfl) h1
  rw [ha]
  obtain ⟨⟨r, s, rfl, k1, r1, s1, rfl, k2, r2, s2, rfl, k3, rfl⟩, _⟩ := ty_struct (ts := [22, 23, 3]) (by kernel_rfl) g1
  obtain ⟨ns, rfl, _⟩ := ty_list (g := nodeA) un22 (sz := 3) (by kernel_rfl) (fun x hx => ty_node hx) k1
  obtain ⟨es, rfl, _⟩ := ty_list (g := edgeA) un23 (sz := 4) (by kernel_rfl) (fun x hx => ty_edge hx) k2
  obtain ⟨m, rfl⟩ := ty_int3 k3
  obtain ⟨facts, rfl⟩ := ty_int3 g2
  obtain ⟨fl, rfl, hfl⟩ := ty_list (g := flA) un26 (sz := 1) (by kernel_rfl) (fun x hx => ty_flow hx) g3
  obtain ⟨sd, rfl, hsd⟩ := ty_list (g := pairA) un27 (sz := 2) (by kernel_rfl) (fun x hx => ty_seed hx) g4
  exact ⟨ns, es, m, facts, fl, sd, rfl, hfl, hsd⟩

end Go.Can

namespace Go.Proofs.Ytgcfhcgnkohfkaa
open Go.ChangeShapes Go.WideShapes Go.ChangeAt Go.RowKit Go.Can

theorem Try.own : ownKnob Try.prog.godebug = none := by kernel_rfl
theorem Try.laidOut : laidOutB Try.prog = true := by kernel_rfl

theorem check_lifted (os : Os) (started : os.Started) (H : Type) (enc : TypeId × Value → H) :
    ReturnsInHanded {} Try.checked os 3 .any (Rows.ifdsCheckSpec.pre6 enc Try.prog Try.f3 Rows.ifdsCheckRow.domain false) (Rows.ifdsCheckSpec.post enc Try.prog Try.f3 false true false false) := by
  refine returnsInHanded_of_change (C := Try.checked) Try.own started (by kernel_rfl) Try.func3
    (ChangeSpec.witness6 (enc := enc) (C := Try.checked) false ⟨#[], #[.agg #[.slice none 0 0, .slice none 0 0, .int .i64 0, .int .i64 0, .slice none 0 0, .slice none 0 0]], []⟩ 8 (by kernel_rfl) (by kernel_rfl) (by kernel_rfl) (by kernel_rfl)) ?_
  intro W base args ds gs before hval hW _ _
  have hW2 := hW
  obtain ⟨p, q, hA, hV, _⟩ := hW2
  obtain ⟨rfl, rfl⟩ := trodVars_none hV
  have hA' : DataW.TrodAll enc Try.prog W 0 (fun _ => true) true [29] args.toList ds p := hA
  obtain ⟨v0, d0, rfl, rfl, _⟩ := trodAll_one hA'
  refine row_of (n := 8) Try.laidOut (rt := 4) rfl un4 rfl rfl rfl rfl ?_ ?_ (fun avs h => ?_) hval hW
  · exact of_decide_eq_true (by kernel_rfl)
  · exact of_decide_eq_true (by kernel_rfl)
  · have h' : TyAll Try.prog 8 [29] avs := h
    cases h' with
    | cons h1 h2 =>
      cases h2
      obtain ⟨ns, es, m, facts, fl, sd, rfl, k1, k2⟩ := tyv29 h1
      exact good.ok.sim _ _ _ _ _ _ (Nat.le_refl _) (l3 k1 k2)

/-- The statement IfdsCheck. -/
theorem check_holds : Rows.IfdsCheckSaid :=
  OpenClaim.holds_of_wide 3 Try.f3 rfl rfl rfl rfl rfl rfl rfl ⟨rfl, rfl, rfl, rfl, rfl⟩ rfl rfl rfl rfl rfl (by kernel_rfl) Try.func3 (by kernel_rfl)
    (of_decide_eq_true (by kernel_rfl)) (by unfold Func.isWrapper; first | (rw [if_pos (by decide +kernel)]; kernel_rfl) | (rw [if_neg (by decide +kernel)]; exact ⟨rfl, rfl⟩))
    (fun os started H enc _ => check_lifted os started H enc)

end Go.Proofs.Ytgcfhcgnkohfkaa
