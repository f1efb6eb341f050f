/- slices.SortFunc of edges: the evaluator's word stands for it. -/
import Derived.Test.YtjmljgajhkbciaaGreatIfdsU
set_option linter.unusedSimpArgs false
set_option linter.unusedVariables false
namespace Go.Can
open Go Go.Proofs Go.RowKit Go.Shelf

def sorF : FuncId → FuncId
  | 6 => 76
  | 14 => 96
  | 15 => 73
  | 20 => 104
  | 21 => 105
  | 22 => 106
  | 23 => 107
  | 24 => 108
  | 25 => 109
  | 26 => 110
  | 27 => 111
  | 28 => 94
  | 29 => 95
  | 46 => 115
  | 47 => 100
  | 48 => 101
  | 49 => 116
  | 50 => 117
  | 57 => 118
  | f => f
def sorT : TypeId → TypeId
  | 39 => 106
  | 22 => 23
  | 24 => 70
  | 25 => 87
  | 45 => 117
  | 46 => 118
  | 50 => 95
  | 53 => 124
  | 55 => 126
  | 66 => 129
  | 70 => 133
  | 76 => 141
  | 77 => 112
  | t => t
def sorRen : Ren := ⟨sorF, sorT, fun g => g⟩

theorem sorB6 : Bears Tryz.prog 76 (SlBodyF.n6 sorRen) := ⟨Tryz.f76.name, by kernel_rfl, by kernel_rfl⟩
theorem sorB14 : Bears Tryz.prog 96 (SlBodyF.n14 sorRen) := ⟨Tryz.f96.name, by kernel_rfl, by kernel_rfl⟩
theorem sorB20 : Bears Tryz.prog 104 (SlBodyF.n20 sorRen) := ⟨Tryz.f104.name, by kernel_rfl, by kernel_rfl⟩
theorem sorB21 : Bears Tryz.prog 105 (SlBodyF.n21 sorRen) := ⟨Tryz.f105.name, by kernel_rfl, by kernel_rfl⟩
theorem sorB22 : Bears Tryz.prog 106 (SlBodyF.n22 sorRen) := ⟨Tryz.f106.name, by kernel_rfl, by kernel_rfl⟩
theorem sorB23 : Bears Tryz.prog 107 (SlBodyF.n23 sorRen) := ⟨Tryz.f107.name, by kernel_rfl, by kernel_rfl⟩
theorem sorB24 : Bears Tryz.prog 108 (SlBodyF.n24 sorRen) := ⟨Tryz.f108.name, by kernel_rfl, by kernel_rfl⟩
theorem sorB25 : Bears Tryz.prog 109 (SlBodyF.n25 sorRen) := ⟨Tryz.f109.name, by kernel_rfl, by kernel_rfl⟩
theorem sorB26 : Bears Tryz.prog 110 (SlBodyF.n26 sorRen) := ⟨Tryz.f110.name, by kernel_rfl, by kernel_rfl⟩
theorem sorB27 : Bears Tryz.prog 111 (SlBodyF.n27 sorRen) := ⟨Tryz.f111.name, by kernel_rfl, by kernel_rfl⟩
theorem sorB46 : Bears Tryz.prog 115 (SlBodyF.n46 sorRen) := ⟨Tryz.f115.name, by kernel_rfl, by kernel_rfl⟩
theorem sorB49 : Bears Tryz.prog 116 (SlBodyF.n49 sorRen) := ⟨Tryz.f116.name, by kernel_rfl, by kernel_rfl⟩
theorem sorB50 : Bears Tryz.prog 117 (SlBodyF.n50 sorRen) := ⟨Tryz.f117.name, by kernel_rfl, by kernel_rfl⟩
theorem sorB57 : Bears Tryz.prog 118 (SlBodyF.n57 sorRen) := ⟨Tryz.f118.name, by kernel_rfl, by kernel_rfl⟩

theorem sorLays : SlLaysF0.n6 Tryz.prog sorRen where
  mixed := by kernel_rfl
  f6 := sorB6
  f14 := sorB14
  f15 := by kernel_rfl
  f20 := sorB20
  f21 := sorB21
  f22 := sorB22
  f23 := sorB23
  f24 := sorB24
  f25 := sorB25
  f26 := sorB26
  f27 := sorB27
  f28 := by kernel_rfl
  f29 := by kernel_rfl
  f46 := sorB46
  f47 := by kernel_rfl
  f48 := by kernel_rfl
  f49 := sorB49
  f50 := sorB50
  f57 := sorB57
  t0 := by kernel_rfl
  a0 := fun w => aggT_run (b := false) (by kernel_rfl) w
  z0 := fun w => szOf_run (by kernel_rfl) w
  v0 := zero_run (by kernel_rfl)
  t3 := by kernel_rfl
  a3 := fun w => aggT_run (b := false) (by kernel_rfl) w
  z3 := fun w => szOf_run (by kernel_rfl) w
  v3 := zero_run (by kernel_rfl)
  t4 := by kernel_rfl
  a4 := fun w => aggT_run (b := false) (by kernel_rfl) w
  z4 := fun w => szOf_run (by kernel_rfl) w
  v4 := zero_run (by kernel_rfl)
  t5 := by kernel_rfl
  a5 := fun w => aggT_run (b := false) (by kernel_rfl) w
  z5 := fun w => szOf_run (by kernel_rfl) w
  v5 := zero_run (by kernel_rfl)
  t9 := by kernel_rfl
  a9 := fun w => aggT_run (b := false) (by kernel_rfl) w
  z9 := fun w => szOf_run (by kernel_rfl) w
  v9 := zero_run (by kernel_rfl)
  t22 := by kernel_rfl
  a22 := fun w => aggT_run (b := false) (by kernel_rfl) w
  z22 := fun w => szOf_run (by kernel_rfl) w
  v22 := zero_run (by kernel_rfl)
  t25 := by kernel_rfl
  a25 := fun w => aggT_run (b := false) (by kernel_rfl) w
  z25 := fun w => szOf_run (by kernel_rfl) w
  v25 := zero_run (by kernel_rfl)
  t39 := by kernel_rfl
  a39 := fun w => aggT_run (b := false) (by kernel_rfl) w
  z39 := fun w => szOf_run (by kernel_rfl) w
  v39 := zero_run (by kernel_rfl)
  t45 := by kernel_rfl
  a45 := fun w => aggT_run (b := false) (by kernel_rfl) w
  z45 := fun w => szOf_run (by kernel_rfl) w
  v45 := zero_run (by kernel_rfl)
  t46 := by kernel_rfl
  a46 := fun w => aggT_run (b := false) (by kernel_rfl) w
  z46 := fun w => szOf_run (by kernel_rfl) w
  v46 := zero_run (by kernel_rfl)
  t50 := by kernel_rfl
  a50 := fun w => aggT_run (b := false) (by kernel_rfl) w
  z50 := fun w => szOf_run (by kernel_rfl) w
  v50 := zero_run (by kernel_rfl)
  t53 := by kernel_rfl
  a53 := fun w => aggT_run (b := false) (by kernel_rfl) w
  z53 := fun w => szOf_run (by kernel_rfl) w
  v53 := zero_run (by kernel_rfl)
  t55 := by kernel_rfl
  a55 := fun w => aggT_run (b := false) (by kernel_rfl) w
  z55 := fun w => szOf_run (by kernel_rfl) w
  v55 := zero_run (by kernel_rfl)
  t66 := by kernel_rfl
  a66 := fun w => aggT_run (b := false) (by kernel_rfl) w
  z66 := fun w => szOf_run (by kernel_rfl) w
  v66 := zero_run (by kernel_rfl)
  t70 := by kernel_rfl
  a70 := fun w => aggT_run (b := false) (by kernel_rfl) w
  z70 := fun w => szOf_run (by kernel_rfl) w
  v70 := zero_run (by kernel_rfl)
  t76 := by kernel_rfl
  a76 := fun w => aggT_run (b := false) (by kernel_rfl) w
  z76 := fun w => szOf_run (by kernel_rfl) w
  v76 := zero_run (by kernel_rfl)
  t77 := by kernel_rfl
  a77 := fun w => aggT_run (b := false) (by kernel_rfl) w
  z77 := fun w => szOf_run (by kernel_rfl) w
  v77 := zero_run (by kernel_rfl)

theorem enc1 (x : ED) : ∀ v ∈ encE x, v.oneCell' = true := by
  intro v hv
  simp only [encE, List.mem_cons, List.not_mem_nil, or_false] at hv
  rcases hv with rfl | rfl | rfl | rfl <;> rfl

theorem cmpLaysE (blk off size : Nat) (w : World) : CmpLays Tryz.prog 77 #[] encE 4 cmpE blk off size w := fun _ _ _ _ x y => w62 x y _

/-- slices.SortFunc of edges: the row holds the sorted list. -/
theorem sort_all (g cap : Nat) (l : List ED) (w : World) (hH : Go.Sort.HoldsK encE 4 w g 0 l.toArray) (hblk : g < w.heap.size) (hsz : l.length < 4611686018427387904) :
    Calls Tryz.prog 76 #[.slice (some ⟨g, 0, none⟩) l.length cap, .func (.func 77) #[] #[]] w fun e w' => e = .returned (.tuple #[]) ∧ ∃ n os, w' = Go.Proofs.sortWorldK encE 4 w g 0 n (sortE l).toArray os := by
  have eg : ∀ args w, (callFunc 77 args).run Tryz.prog w = .ok (.enter 77 args) w := fun args w => enters_call enters Tryz.func77 rfl w args
  have h := AnyQ.slices_SortFunc_eq sorLays 4 (fun w => aggT_run (b := true) (by kernel_rfl) w) (fun w => szOf_run (by kernel_rfl) w) encE (fun _ => rfl) enc1 cmpE swoE 77 #[] g 0 cap l.toArray w eg (cmpLaysE g 0 l.toArray.size w) hH hblk (by simpa using hsz)
  exact h

/-- Nothing, as a result. -/
theorem rep_unit {M : Mem} {θ : Th} : Rep M θ (.tup []) (.tuple #[]) := ⟨#[], rfl, rfl, fun i c h => by simp at h⟩

theorem edgeOf_eq {x : AV} {n : ED} (h : edgeOf x = some n) : x = edgeA n := by
  unfold edgeOf at h
  split at h
  · cases h; rfl
  · cases h

theorem edgesOf_eq : ∀ {xs : List AV} {l : List ED}, edgesOf xs = some l → xs = l.map edgeA
  | [], l, h => by cases h; rfl
  | x :: xs, l, h => by
    unfold edgesOf at h
    split at h
    · rename_i a k h1 h2
      cases h
      rw [edgeOf_eq h1, edgesOf_eq h2]; rfl
    · cases h

theorem sortWorld_facts {w : World} {g n cap : Nat} {l : List ED} {os : Array Obj} {cur : Array Value} {e : TypeId} (hb : w.heap[g]? = some (.cells cur e (0, 0))) :
    let w' := Go.Proofs.sortWorldK encE 4 w g 0 n l.toArray os
    w'.os = w.os ∧ w'.tape = w.tape ∧ w'.output = w.output ∧ w.heap.size ≤ w'.heap.size ∧ (∀ k, k < w.heap.size → k ≠ g → w'.heap[k]? = w.heap[k]?) ∧ w'.heap[g]? = some (.cells (Go.Sort.putCells id 0 (Go.Sort.flatK encE 4 l.toArray) cur) e (0, 0)) := by
  intro w'
  have hg : g < w.heap.size := (Array.getElem?_eq_some_iff.1 hb).1
  have hh : w'.heap = (w.heap.modify g (Go.Sort.onCells (Go.Sort.putCells id 0 (Go.Sort.flatK encE 4 l.toArray)))) ++ os := rfl
  refine ⟨rfl, rfl, rfl, ?_, fun k hk hkg => ?_, ?_⟩
  · rw [hh]; simp
  · rw [hh, Array.getElem?_append_left (by simpa using hk), Array.getElem?_modify, if_neg (fun h => hkg h.symm)]
  · rw [hh, Array.getElem?_append_left (by simpa using hg), Array.getElem?_modify, if_pos rfl, hb]
    rfl

set_option maxRecDepth 100000 in
set_option maxHeartbeats 1000000 in
theorem sort_callR {args : List AV} {σ σ' : St} {base : Nat} {r : AV} (h : sortP args σ base = some (r, σ')) : CallR Tryz.prog 76 args σ r σ' := by
  unfold sortP at h
  split at h
  · rename_i id gen len
    split at h
    · rename_i xs hx
      split at h
      · rename_i hc
        split at h
        · rename_i l hl
          cases h
          obtain ⟨_, hgen, hlen, h0, hbig⟩ := hc
          have hxs := edgesOf_eq hl
          subst hxs
          rw [List.length_map] at hgen hlen h0 hbig
          subst hgen
          subst hlen
          refine ⟨fun w vs => enters_call enters Tryz.func76 rfl w vs, fun w M θ vs hs ha => ?_⟩
          obtain ⟨u, v, rfl, hu, hv⟩ := two_args ha
          have hu' : Cell M θ (.row 4 id l.length 0 l.length false) u := hu
          have hv' : Cell M θ (.fn 77 [] []) v := hv
          have hlt : id < σ.length := (List.getElem?_eq_some_iff.1 hx).1
          have hob := hs.ob id _ hx
          obtain ⟨o0, o1, o2, o3, b, cap, o4, o5, o6, o7⟩ := hob
          rw [List.length_map] at o4 o5
          cases hv' with
          | fn f fi ca fu cu h1 h2 h3 h4 =>
            have e1 : fu = #[] := Array.eq_empty_of_size_eq_zero (by simpa using h1)
            have e2 : cu = #[] := Array.eq_empty_of_size_eq_zero (by simpa using h2)
            subst e1
            subst e2
            cases hu' with
            | row _ _ _ _ _ _ a cap' cap2 b2 ht k1 kg km kb kc ka =>
              rw [o4] at ht
              cases ht
              cases b with
              | none =>
                have := o7.2
                omega
              | some g =>
                obtain ⟨cur, e, q1, q2, q3⟩ := o7
                have hap : a = some ⟨g, 0, none⟩ := by
                  rcases ka with h | ⟨g', h, h'⟩
                  · simp at kc; omega
                  · cases h; simpa using h'
                subst hap
                have hH := holds_row q1 q2 o5 q3
                have hblk : g < w.heap.size := (Array.getElem?_eq_some_iff.1 q1).1
                have hcon := sort_all g cap' l w hH hblk (by simpa using hbig)
                refine hcon.mono ?_
                rintro ex w' ⟨rfl, n, os, rfl⟩
                obtain ⟨s1, s2, s3, s4, s5, s6⟩ := sortWorld_facts (n := n) (cap := cap) (l := sortE l) (os := os) q1
                have hll := sortE_len l
                have own : ∀ k, OwnAt θ σ id k ↔ k = g := fun k => by
                  unfold OwnAt
                  rw [hx]
                  simp only [List.length_map, o4, Option.some.injEq, Prod.mk.injEq]
                  constructor
                  · rintro ⟨_, _, h, _⟩; exact h.symm
                  · rintro rfl; exact ⟨_, _, rfl, rfl, rfl⟩
                obtain ⟨r1, r2⟩ := row_put (M := M) (θ := θ) (l := sortE l) (cap := cap) (cur := cur) q2 (by rw [hll]; exact o5)
                obtain ⟨p1, p2⟩ := set_ext (w' := Go.Proofs.sortWorldK encE 4 w g 0 n (sortE l).toArray os) (θ' := θ) (x' := .row 4 ((sortE l).map edgeA)) hs hx θ.le_refl (fun j hj => ⟨fun _ => rfl, rfl⟩)
                  (fun k hk hno => s5 k hk (fun he => hno ((own k).2 he)))
                  (fun g' hg' => by
                    rw [ownAt_set hlt] at hg'
                    obtain ⟨c2, s, hg'⟩ := hg'
                    rw [List.length_map, hll, o4] at hg'
                    cases hg'
                    exact .inl ((own g).2 rfl))
                  ⟨o0, fun gn x hgx => (by rw [List.length_map, hll]; have := o1 gn x hgx; rwa [List.length_map] at this), o2, fun x hx => by
                    obtain ⟨z, _, rfl⟩ := List.mem_map.1 hx
                    rfl, some g, cap, by rw [List.length_map, hll]; exact o4, by rw [List.length_map, hll]; exact o5, o6, _, e, s6, r2, r1⟩
                  s1 s2 s3 s4
                exact ⟨_, M, θ, rfl, p1, p2, rep_unit⟩
        · cases h
      · cases h
    · cases h
  · cases h

end Go.Can
