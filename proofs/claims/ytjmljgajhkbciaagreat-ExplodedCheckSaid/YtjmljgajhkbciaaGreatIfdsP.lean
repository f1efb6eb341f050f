/- The functions that stand for themselves: bits.Len of a small number; checkNodes in two parts. -/
import Derived.Test.YtjmljgajhkbciaaGreatIfdsA
import Derived.Test.YtjmljgajhkbciaaGreatCanY
import Derived.WalkKit
import Derived.Laws.IdiomRangeMap
import Derived.LoopN
set_option linter.unusedSimpArgs false
set_option linter.unusedVariables false
namespace Go.Can
open Go Go.Proofs Go.RowKit

theorem enters : Enters Tryz.prog := by
  intro f fn hf _
  have h : Tryz.prog.funcs.all (fun fn => !(fn.name == "runtime.NumGoroutine")) = true := by kernel_rfl
  rw [Array.all_eq_true] at h
  obtain ⟨hlt, he⟩ := Array.getElem?_eq_some_iff.1 hf
  have := h f hlt
  rw [he] at this
  simpa using this

theorem mixed : Tryz.prog.follows .mixedOrders = true := by kernel_rfl

set_option maxHeartbeats 4000000 in
set_option maxRecDepth 100000 in
theorem len0 (w : World) : Calls Tryz.prog 73 #[.int .u64 0] w fun e w' => e = .returned (.int .i64 0) ∧ w' = w := by
  go_enter Tryz.func73, Tryz.ntmps73
  go_wp2
  go_ret
  exact ⟨by kernel_rfl, rfl⟩

set_option maxHeartbeats 4000000 in
set_option maxRecDepth 100000 in
theorem len1 (w : World) : Calls Tryz.prog 73 #[.int .u64 1] w fun e w' => e = .returned (.int .i64 1) ∧ w' = w := by
  go_enter Tryz.func73, Tryz.ntmps73
  go_wp2
  go_ret
  exact ⟨by kernel_rfl, rfl⟩

set_option maxHeartbeats 4000000 in
set_option maxRecDepth 100000 in
theorem len2 (w : World) : Calls Tryz.prog 73 #[.int .u64 2] w fun e w' => e = .returned (.int .i64 2) ∧ w' = w := by
  go_enter Tryz.func73, Tryz.ntmps73
  go_wp2
  go_ret
  exact ⟨by kernel_rfl, rfl⟩

theorem one_arg {M : Mem} {θ : Th} {a : AV} {vs : Array Value} (h : ArgsR M θ [a] vs) : ∃ u, vs = #[u] ∧ RepA M θ a u := by
  obtain ⟨h1, h2⟩ := h
  refine ⟨vs.getD 0 undef, ?_, h2 0 a rfl⟩
  apply Array.ext
  · simpa using h1
  · intro j k1 k2
    simp at h1 k2
    subst k2
    simp [Array.getD_eq_getD_getElem?, h1]

theorem len_callR {args : List AV} {σ σ' : St} {base : Nat} {r : AV} (h : lenP args σ base = some (r, σ')) : CallR Tryz.prog 73 args σ r σ' := by
  unfold lenP at h
  split at h
  · cases h
    refine ⟨fun w vs => enters_call enters Tryz.func73 rfl w vs, fun w M θ vs hs ha => ?_⟩
    obtain ⟨u, rfl, hu⟩ := one_arg ha
    have := hu.rep.int
    subst this
    exact (len0 w).mono fun e w' ⟨he, hw⟩ => ⟨_, M, θ, he, by rw [hw]; exact Ext.refl _ _ _ _ _, by rw [hw]; exact hs, (Cell.int .i64 0).rep⟩
  · cases h
    refine ⟨fun w vs => enters_call enters Tryz.func73 rfl w vs, fun w M θ vs hs ha => ?_⟩
    obtain ⟨u, rfl, hu⟩ := one_arg ha
    have := hu.rep.int
    subst this
    exact (len1 w).mono fun e w' ⟨he, hw⟩ => ⟨_, M, θ, he, by rw [hw]; exact Ext.refl _ _ _ _ _, by rw [hw]; exact hs, (Cell.int .i64 1).rep⟩
  · cases h
    refine ⟨fun w vs => enters_call enters Tryz.func73 rfl w vs, fun w M θ vs hs ha => ?_⟩
    obtain ⟨u, rfl, hu⟩ := one_arg ha
    have := hu.rep.int
    subst this
    exact (len2 w).mono fun e w' ⟨he, hw⟩ => ⟨_, M, θ, he, by rw [hw]; exact Ext.refl _ _ _ _ _, by rw [hw]; exact hs, (Cell.int .i64 2).rep⟩
  · cases h

/-! checkNodes: the part ahead of the range over the map is the evaluator's; the rest is walked. -/

def cf0 : Cfg := { cfI with prim := fun _ => none }

theorem primOk0 : PrimOk Tryz.prog cf0 := ⟨fun f p args σ base r σ' h _ _ => (by cases h), fun f p args σ base r σ' h _ _ => (by cases h), fun f p args σ base r σ' h _ _ => (by cases h), fun f p args σ base r σ' h _ _ => (by cases h)⟩

def fstOf : Code → Code
  | .seq a _ => a
  | _ => .skip
def sndOf : Code → Code
  | .seq _ b => b
  | _ => .skip

noncomputable def k38 : Code := (Tryz.f49.body).getD .skip
noncomputable def a38 : Code := .seq (fstOf k38) (.seq (fstOf (sndOf k38)) (fstOf (sndOf (sndOf k38))))
noncomputable def b38 : Code := sndOf (sndOf (sndOf k38))

theorem seq_split {rg : Nat → Array Oper → Bool → S → Option S} {mk : Code → Option Out → Env → Option Env} {lp : (S → Option (Out × S)) → S → Option (Out × S)} {x y : Code} {s s' : S} (h : execC rg mk lp (.seq x y) s = some (.normal, s')) :
    ∃ s1, execC rg mk lp x s = some (.normal, s1) ∧ execC rg mk lp y s1 = some (.normal, s') := by
  unfold execC at h
  split at h
  · rename_i s1 h1; exact ⟨s1, h1, h⟩
  · rename_i hne
    exact absurd h (hne s')

theorem arr_lit {n : Nat} {a : Array Value} (h : a.size = n) : a = ((List.range n).map fun i => a.getD i undef).toArray := by
  apply Array.ext
  · simp [h]
  · intro i h1 h2
    simp [Array.getD_eq_getD_getElem?, h1]

end Go.Can
