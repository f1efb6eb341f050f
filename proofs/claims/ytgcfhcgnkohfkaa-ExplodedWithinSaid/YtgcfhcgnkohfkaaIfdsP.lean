/- The functions that stand for themselves: bits.Len of a small number; checkNodes of the closed examples' nodes. -/
import Derived.Test.YtgcfhcgnkohfkaaIfdsA
import Derived.Test.YtgcfhcgnkohfkaaCanY
import Derived.WalkKit
import Derived.Laws.IdiomRangeMap
import Derived.LoopN
set_option linter.unusedSimpArgs false
set_option linter.unusedVariables false
namespace Go.Can
open Go Go.Proofs Go.RowKit

theorem enters : Enters Try.prog := by
  intro f fn hf _
  have h : Try.prog.funcs.all (fun fn => !(fn.name == "runtime.NumGoroutine")) = true := by kernel_rfl
  rw [Array.all_eq_true] at h
  obtain ⟨hlt, he⟩ := Array.getElem?_eq_some_iff.1 hf
  have := h f hlt
  rw [he] at this
  simpa using this

theorem mixed : Try.prog.follows .mixedOrders = true := by kernel_rfl

set_option maxHeartbeats 4000000 in
set_option maxRecDepth 100000 in
theorem len0 (w : World) : Calls Try.prog 54 #[.int .u64 0] w fun e w' => e = .returned (.int .i64 0) ∧ w' = w := by
  go_enter Try.func54, Try.ntmps54
  go_wp2
  go_ret
  exact ⟨by kernel_rfl, rfl⟩

set_option maxHeartbeats 4000000 in
set_option maxRecDepth 100000 in
theorem len1 (w : World) : Calls Try.prog 54 #[.int .u64 1] w fun e w' => e = .returned (.int .i64 1) ∧ w' = w := by
  go_enter Try.func54, Try.ntmps54
  go_wp2
  go_ret
  exact ⟨by kernel_rfl, rfl⟩

set_option maxHeartbeats 4000000 in
set_option maxRecDepth 100000 in
theorem len2 (w : World) : Calls Try.prog 54 #[.int .u64 2] w fun e w' => e = .returned (.int .i64 2) ∧ w' = w := by
  go_enter Try.func54, Try.ntmps54
  go_wp2
  go_ret
  exact ⟨by kernel_rfl, rfl⟩

theorem one_arg {M : Mem} {θ : Th} {a : AV} {vs : Array Value} (h : ArgsR M θ [a] vs) : ∃ u, vs = #[u] ∧ RepA M θ a u := by
  obtain ⟨h1, h2⟩ := h
  refine ⟨vs.getD 0 undef, ?_, h2 0 a rfl⟩
  apply Array.ext
  · simpa using h1
  · intro j k1 k2
    simp at h1 k2
    subst k2
    simp [Array.getD_eq_getD_getElem?, h1]

theorem len_callR {args : List AV} {σ σ' : St} {base : Nat} {r : AV} (h : lenP args σ base = some (r, σ')) : CallR Try.prog 54 args σ r σ' := by
  unfold lenP at h
  split at h
  · cases h
    refine ⟨fun w vs => enters_call enters Try.func54 rfl w vs, fun w M θ vs hs ha => ?_⟩
    obtain ⟨u, rfl, hu⟩ := one_arg ha
    have := hu.rep.int
    subst this
    exact (len0 w).mono fun e w' ⟨he, hw⟩ => ⟨_, M, θ, he, by rw [hw]; exact Ext.refl _ _ _ _ _, by rw [hw]; exact hs, (Cell.int .i64 0).rep⟩
  · cases h
    refine ⟨fun w vs => enters_call enters Try.func54 rfl w vs, fun w M θ vs hs ha => ?_⟩
    obtain ⟨u, rfl, hu⟩ := one_arg ha
    have := hu.rep.int
    subst this
    exact (len1 w).mono fun e w' ⟨he, hw⟩ => ⟨_, M, θ, he, by rw [hw]; exact Ext.refl _ _ _ _ _, by rw [hw]; exact hs, (Cell.int .i64 1).rep⟩
  · cases h
    refine ⟨fun w vs => enters_call enters Try.func54 rfl w vs, fun w M θ vs hs ha => ?_⟩
    obtain ⟨u, rfl, hu⟩ := one_arg ha
    have := hu.rep.int
    subst this
    exact (len2 w).mono fun e w' ⟨he, hw⟩ => ⟨_, M, θ, he, by rw [hw]; exact Ext.refl _ _ _ _ _, by rw [hw]; exact hs, (Cell.int .i64 2).rep⟩
  · cases h

/-! checkNodes: the part ahead of the range over the map is the evaluator's; the rest is walked. -/

def cf0 : Cfg := { cfI with prim := fun _ => none }

theorem primOk0 : PrimOk Try.prog cf0 := ⟨fun f p args σ base r σ' h _ _ => (by cases h), fun f p args σ base r σ' h _ _ => (by cases h), fun f p args σ base r σ' h _ _ => (by cases h), fun f p args σ base r σ' h _ _ => (by cases h)⟩

def fstOf : Code → Code
  | .seq a _ => a
  | _ => .skip
def sndOf : Code → Code
  | .seq _ b => b
  | _ => .skip

noncomputable def c38 : Code := (Try.f38.body).getD .skip
noncomputable def a38 : Code := .seq (fstOf c38) (.seq (fstOf (sndOf c38)) (fstOf (sndOf (sndOf c38))))
noncomputable def b38 : Code := sndOf (sndOf (sndOf c38))

def one4 : List AV := [.agg [.int .i64 0, .int .i64 1, .int .i64 (-1)], .agg [.int .i64 0, .int .i64 2, .int .i64 0], .agg [.int .i64 0, .int .i64 3, .int .i64 (-1)], .agg [.int .i64 0, .int .i64 4, .int .i64 (-1)]]

noncomputable def run38 (f : Bool) : Option (Out × S) := execC (regionA Try.prog cf0 (callN Try.prog cf0 20) 0 38) (fun c o e => maskA (fun t => (cf0.live 38 c o).contains t) 0 e) (fun b s => loopN b 20 s) a38 ([AV.list f 3 one4].map .val ++ List.replicate 83 .und, [])

def good38 : Option (Out × S) → Bool
  | some (.normal, env, σ) => env.length == 84 && (match (env : Env)[3]? with
      | some (Slot.val (AV.map (some i))) => i == 0
      | _ => false) && (match (σ : St) with
      | [Ob.map [(AV.int .i64 a, AV.int .i64 b)]] => decide (a = 0) && decide (b = 3)
      | _ => false)
  | _ => false

set_option maxRecDepth 1000000 in
theorem run38t : good38 (run38 true) = true := by kernel_rfl
set_option maxRecDepth 1000000 in
theorem run38f : good38 (run38 false) = true := by kernel_rfl

theorem seq_split {rg : Nat → Array Oper → Bool → S → Option S} {mk : Code → Option Out → Env → Option Env} {lp : (S → Option (Out × S)) → S → Option (Out × S)} {x y : Code} {s s' : S} (h : execC rg mk lp (.seq x y) s = some (.normal, s')) :
    ∃ s1, execC rg mk lp x s = some (.normal, s1) ∧ execC rg mk lp y s1 = some (.normal, s') := by
  unfold execC at h
  split at h
  · rename_i s1 h1; exact ⟨s1, h1, h⟩
  · rename_i hne
    exact absurd h (hne s')

theorem arr_lit {n : Nat} {a : Array Value} (h : a.size = n) : a = ((List.range n).map fun i => a.getD i undef).toArray := by
  apply Array.ext
  · simp [h]
  · intro i h1 h2
    simp [Array.getD_eq_getD_getElem?, h1]

/-- A map of one entry, none handed out: it comes out, and the tape is not asked. -/
theorem next_one {w : World} {g born clock : Nat} {k v : Value} (hb : w.heap[g]? = some (.map #[⟨k, v, born⟩] clock)) (hlt : born < clock) :
    (Instr.next (.pointer (some ⟨w.heap.size, 0, none⟩)) false 0).run Try.prog (w.alloc (.mapIter (some g) clock #[] clock)) = .ok (.tuple #[.bool true, k, v]) (w.alloc (.mapIter (some g) clock #[born] clock)) := by
  have hg : g < w.heap.size := (Array.getElem?_eq_some_iff.1 hb).1
  have hb' : (w.alloc (.mapIter (some g) clock #[] clock)).heap[g]? = some (.map #[⟨k, v, born⟩] clock) := by rw [heap_alloc_old w _ hg, hb]
  have hp : ∀ (h : Array Obj) (x y : Obj), (h.push x).setIfInBounds h.size y = h.push y := by
    intro h x y
    apply Array.toList_inj.1
    simp
  have hset : ∀ (o' : Obj), (setObj w.heap.size o').run Try.prog (w.alloc (.mapIter (some g) clock #[] clock)) = .ok () (w.alloc o') := fun o' => by
    simp only [setObj, Sem.run]
    rw [heap_alloc_new]
    show Result.ok () ({ w.alloc (.mapIter (some g) clock #[] clock) with heap := (w.heap.push (.mapIter (some g) clock #[] clock)).setIfInBounds w.heap.size o' } : World) = _
    rw [hp]
    rfl
  have hn : ¬ clock ≤ born := by omega
  simp only [Instr.next, getObj, Sem.run_bind, Sem.run, heap_alloc_new, hb', Result.andThen]
  simp [hlt, hn, choose, Sem.run, Question.forced, hset]

set_option maxHeartbeats 8000000 in
set_option maxRecDepth 100000 in
/-- The rest: the map holds one entry, whose count is three. -/
theorem rest38 {w : World} {g born clock : Nat} {k : Value} {tmps : Array Value} {Q : Exit → Act → World → Prop} (hsz : tmps.size = 84) (h3 : tmps.getD 3 undef = .map (some g)) (hb : w.heap[g]? = some (.map #[⟨k, .int .i64 3, born⟩] clock)) (hlt : born < clock)
    (hQ : ∀ tmps' (w' : World), Below w.heap.size w w' → tmps'.getD 2 undef = .int .i64 0 → tmps'.size = 84 → Q .ret ⟨tmps', []⟩ w') : b38.wp Try.prog Q ⟨tmps, []⟩ w := by
  rw [arr_lit hsz]
  show Code.wp _ (sndOf (sndOf (sndOf ((Try.f38.body).getD .skip)))) _ _ _
  simp only [Try.f38, Option.getD_some, sndOf]
  simp only [List.range, List.range.loop, List.map_cons, List.map_nil, h3]
  generalize tmps.getD 0 undef = x0
  have hrg := run_range_map (P := Try.prog) w 66 3 3 g #[⟨k, .int .i64 3, born⟩] clock (by kernel_rfl) hb
  have hold : ∀ x ∈ (#[⟨k, .int .i64 3, born⟩] : Array MapEntry).toList, x.born < clock := fun x hx => by simp at hx; rw [hx]; exact hlt
  have hrun := next_one hb hlt
  have hent := run_entry_map (P := Try.prog) w g clock #[] #[⟨k, .int .i64 3, born⟩] clock ⟨k, .int .i64 3, born⟩ hb (by simp) (by simp)
  have law2 := run_next_map (P := Try.prog) w 0 g clock clock (#[].push born) #[⟨k, .int .i64 3, born⟩] clock hb hold (Nat.le_refl _)
  rcases law2 with ⟨_, hrun2⟩ | ⟨e, he, _⟩
  · have e1 : (#[] : Array Nat).push born = #[born] := rfl
    rw [e1] at hent hrun2
    have hbel : Below w.heap.size w (w.alloc (.mapIter (some g) clock #[born] clock)) := (Below.refl _ w).alloc (Nat.le_refl _) _
    clear hold
    go_wp2
    refine wp_loop_rounds 2 ?_
    rw [rounds_succ]
    go_wp2
    rw [rounds_succ]
    go_wp2
    exact hQ _ _ hbel rfl rfl
  · simp [leftOf] at he

end Go.Can
