/- slices.SortFunc of edges: the evaluator's word stands for it. -/
import Derived.Test.YtgcfhcgnkohfkaaIfdsU
set_option linter.unusedSimpArgs false
set_option linter.unusedVariables false
namespace Go.Can
open Go Go.Proofs Go.RowKit Go.Shelf

def sorF : FuncId → FuncId
  | 6 => 61
  | 14 => 87
  | 15 => 54
  | 20 => 109
  | 21 => 110
  | 22 => 111
  | 23 => 112
  | 24 => 113
  | 25 => 114
  | 26 => 115
  | 27 => 116
  | 28 => 81
  | 29 => 82
  | 46 => 125
  | 47 => 98
  | 48 => 99
  | 49 => 126
  | 50 => 127
  | 57 => 128
  | f => f
def sorT : TypeId → TypeId
  | 22 => 23
  | 24 => 93
  | 25 => 94
  | 45 => 122
  | 46 => 123
  | 50 => 127
  | 53 => 130
  | 55 => 132
  | 66 => 158
  | 70 => 162
  | 76 => 187
  | 77 => 113
  | t => t
def sorRen : Ren := ⟨sorF, sorT, fun g => g⟩

theorem sorB6 : Bears Try.prog 61 (SlBodyF.n6 sorRen) := ⟨Try.f61.name, by kernel_rfl, by kernel_rfl⟩
theorem sorB14 : Bears Try.prog 87 (SlBodyF.n14 sorRen) := ⟨Try.f87.name, by kernel_rfl, by kernel_rfl⟩
theorem sorB20 : Bears Try.prog 109 (SlBodyF.n20 sorRen) := ⟨Try.f109.name, by kernel_rfl, by kernel_rfl⟩
theorem sorB21 : Bears Try.prog 110 (SlBodyF.n21 sorRen) := ⟨Try.f110.name, by kernel_rfl, by kernel_rfl⟩
theorem sorB22 : Bears Try.prog 111 (SlBodyF.n22 sorRen) := ⟨Try.f111.name, by kernel_rfl, by kernel_rfl⟩
theorem sorB23 : Bears Try.prog 112 (SlBodyF.n23 sorRen) := ⟨Try.f112.name, by kernel_rfl, by kernel_rfl⟩
theorem sorB24 : Bears Try.prog 113 (SlBodyF.n24 sorRen) := ⟨Try.f113.name, by kernel_rfl, by kernel_rfl⟩
theorem sorB25 : Bears Try.prog 114 (SlBodyF.n25 sorRen) := ⟨Try.f114.name, by kernel_rfl, by kernel_rfl⟩
theorem sorB26 : Bears Try.prog 115 (SlBodyF.n26 sorRen) := ⟨Try.f115.name, by kernel_rfl, by kernel_rfl⟩
theorem sorB27 : Bears Try.prog 116 (SlBodyF.n27 sorRen) := ⟨Try.f116.name, by kernel_rfl, by kernel_rfl⟩
theorem sorB46 : Bears Try.prog 125 (SlBodyF.n46 sorRen) := ⟨Try.f125.name, by kernel_rfl, by kernel_rfl⟩
theorem sorB49 : Bears Try.prog 126 (SlBodyF.n49 sorRen) := ⟨Try.f126.name, by kernel_rfl, by kernel_rfl⟩
theorem sorB50 : Bears Try.prog 127 (SlBodyF.n50 sorRen) := ⟨Try.f127.name, by kernel_rfl, by kernel_rfl⟩
theorem sorB57 : Bears Try.prog 128 (SlBodyF.n57 sorRen) := ⟨Try.f128.name, by kernel_rfl, by kernel_rfl⟩

theorem sorLays : SlLaysF0.n6 Try.prog sorRen where
  mixed := by kernel_rfl
  f6 := sorB6
  f14 := sorB14
  f15 := by kernel_rfl
  f20 := sorB20
  f21 := sorB21
  f22 := sorB22
  f23 := sorB23
  f24 := sorB24
  f25 := sorB25
  f26 := sorB26
  f27 := sorB27
  f28 := by kernel_rfl
  f29 := by kernel_rfl
  f46 := sorB46
  f47 := by kernel_rfl
  f48 := by kernel_rfl
  f49 := sorB49
  f50 := sorB50
  f57 := sorB57
  t0 := by kernel_rfl
  a0 := fun w => aggT_run (b := false) (by kernel_rfl) w
  z0 := fun w => szOf_run (by kernel_rfl) w
  v0 := zero_run (by kernel_rfl)
  t3 := by kernel_rfl
  a3 := fun w => aggT_run (b := false) (by kernel_rfl) w
  z3 := fun w => szOf_run (by kernel_rfl) w
  v3 := zero_run (by kernel_rfl)
  t4 := by kernel_rfl
  a4 := fun w => aggT_run (b := false) (by kernel_rfl) w
  z4 := fun w => szOf_run (by kernel_rfl) w
  v4 := zero_run (by kernel_rfl)
  t5 := by kernel_rfl
  a5 := fun w => aggT_run (b := false) (by kernel_rfl) w
  z5 := fun w => szOf_run (by kernel_rfl) w
  v5 := zero_run (by kernel_rfl)
  t9 := by kernel_rfl
  a9 := fun w => aggT_run (b := false) (by kernel_rfl) w
  z9 := fun w => szOf_run (by kernel_rfl) w
  v9 := zero_run (by kernel_rfl)
  t22 := by kernel_rfl
  a22 := fun w => aggT_run (b := false) (by kernel_rfl) w
  z22 := fun w => szOf_run (by kernel_rfl) w
  v22 := zero_run (by kernel_rfl)
  t25 := by kernel_rfl
  a25 := fun w => aggT_run (b := false) (by kernel_rfl) w
  z25 := fun w => szOf_run (by kernel_rfl) w
  v25 := zero_run (by kernel_rfl)
  t39 := by kernel_rfl
  a39 := fun w => aggT_run (b := false) (by kernel_rfl) w
  z39 := fun w => szOf_run (by kernel_rfl) w
  v39 := zero_run (by kernel_rfl)
  t45 := by kernel_rfl
  a45 := fun w => aggT_run (b := false) (by kernel_rfl) w
  z45 := fun w => szOf_run (by kernel_rfl) w
  v45 := zero_run (by kernel_rfl)
  t46 := by kernel_rfl
  a46 := fun w => aggT_run (b := false) (by kernel_rfl) w
  z46 := fun w => szOf_run (by kernel_rfl) w
  v46 := zero_run (by kernel_rfl)
  t50 := by kernel_rfl
  a50 := fun w => aggT_run (b := false) (by kernel_rfl) w
  z50 := fun w => szOf_run (by kernel_rfl) w
  v50 := zero_run (by kernel_rfl)
  t53 := by kernel_rfl
  a53 := fun w => aggT_run (b := false) (by kernel_rfl) w
  z53 := fun w => szOf_run (by kernel_rfl) w
  v53 := zero_run (by kernel_rfl)
  t55 := by kernel_rfl
  a55 := fun w => aggT_run (b := false) (by kernel_rfl) w
  z55 := fun w => szOf_run (by kernel_rfl) w
  v55 := zero_run (by kernel_rfl)
  t66 := by kernel_rfl
  a66 := fun w => aggT_run (b := false) (by kernel_rfl) w
  z66 := fun w => szOf_run (by kernel_rfl) w
  v66 := zero_run (by kernel_rfl)
  t70 := by kernel_rfl
  a70 := fun w => aggT_run (b := false) (by kernel_rfl) w
  z70 := fun w => szOf_run (by kernel_rfl) w
  v70 := zero_run (by kernel_rfl)
  t76 := by kernel_rfl
  a76 := fun w => aggT_run (b := false) (by kernel_rfl) w
  z76 := fun w => szOf_run (by kernel_rfl) w
  v76 := zero_run (by kernel_rfl)
  t77 := by kernel_rfl
  a77 := fun w => aggT_run (b := false) (by kernel_rfl) w
  z77 := fun w => szOf_run (by kernel_rfl) w
  v77 := zero_run (by kernel_rfl)

theorem enc1 (x : ED) : ∀ v ∈ encE x, v.oneCell' = true := by
  intro v hv
  simp only [encE, List.mem_cons, List.not_mem_nil, or_false] at hv
  rcases hv with rfl | rfl | rfl | rfl <;> rfl

theorem cmpLaysE (blk off size : Nat) (w : World) : CmpLays Try.prog 62 #[] encE 4 cmpE blk off size w := fun _ _ _ _ x y => w62 x y _

/-- slices.SortFunc of edges: the row holds the sorted list. -/
theorem sort_all (g cap : Nat) (l : List ED) (w : World) (hH : Go.Sort.HoldsK encE 4 w g 0 l.toArray) (hblk : g < w.heap.size) (hsz : l.length < 4611686018427387904) :
    Calls Try.prog 61 #[.slice (some ⟨g, 0, none⟩) l.length cap, .func (.func 62) #[] #[]] w fun e w' => e = .returned (.tuple #[]) ∧ ∃ n os, w' = Go.Proofs.sortWorldK encE 4 w g 0 n (sortE l).toArray os := by
  have eg : ∀ args w, (callFunc 62 args).run Try.prog w = .ok (.enter 62 args) w := fun args w => enters_call enters Try.func62 rfl w args
  have h := AnyQ.slices_SortFunc_eq sorLays 4 (fun w => aggT_run (b := true) (by kernel_rfl) w) (fun w => szOf_run (by kernel_rfl) w) encE (fun _ => rfl) enc1 cmpE swoE 62 #[] g 0 cap l.toArray w eg (cmpLaysE g 0 l.toArray.size w) hH hblk (by simpa using hsz)
  exact h

/-- Nothing, as a result. -/
theorem rep_unit {M : Mem} {θ : Th} : Rep M θ (.tup []) (.tuple #[]) := ⟨#[], rfl, rfl, fun i c h => by simp at h⟩

theorem edgeOf_eq {x : AV} {n : ED} (h : edgeOf x = some n) : x = edgeA n := by
  unfold edgeOf at h
  split at h
  · cases h; rfl
  · cases h

theorem edgesOf_eq : ∀ {xs : List AV} {l : List ED}, edgesOf xs = some l → xs = l.map edgeA
  | [], l, h => by cases h; rfl
  | x :: xs, l, h => by
    unfold edgesOf at h
    split at h
    · rename_i a k h1 h2
      cases h
      rw [edgeOf_eq h1, edgesOf_eq h2]; rfl
    · cases h

theorem sortWorld_facts {w : World} {g n cap : Nat} {l : List ED} {os : Array Obj} {cur : Array Value} {e : TypeId} (hb : w.heap[g]? = some (.cells cur e (0, 0))) :
    let w' := Go.Proofs.sortWorldK encE 4 w g 0 n l.toArray os
    w'.os = w.os ∧ w'.tape = w.tape ∧ w'.output = w.output ∧ w.heap.size ≤ w'.heap.size ∧ (∀ k, k < w.heap.size → k ≠ g → w'.heap[k]? = w.heap[k]?) ∧ w'.heap[g]? = some (.cells (Go.Sort.putCells id 0 (Go.Sort.flatK encE 4 l.toArray) cur) e (0, 0)) := by
  intro w'
  have hg : g < w.heap.size := (Array.getElem?_eq_some_iff.1 hb).1
  have hh : w'.heap = (w.heap.modify g (Go.Sort.onCells (Go.Sort.putCells id 0 (Go.Sort.flatK encE 4 l.toArray)))) ++ os := rfl
  refine ⟨rfl, rfl, rfl, ?_, fun k hk hkg => ?_, ?_⟩
  · rw [hh]; simp
  · rw [hh, Array.getElem?_append_left (by simpa using hk), Array.getElem?_modify, if_neg (fun h => hkg h.symm)]
  · rw [hh, Array.getElem?_append_left (by simpa using hg), Array.getElem?_modify, if_pos rfl, hb]
    rfl

set_option maxRecDepth 100000 in
set_option maxHeartbeats 1000000 in
theorem sort_callR {args : List AV} {σ σ' : St} {base : Nat} {r : AV} (h : sortP args σ base = some (r, σ')) : CallR Try.prog 61 args σ r σ' := by
  unfold sortP at h
  split at h
  · rename_i id gen len
    split at h
    · rename_i xs hx
      split at h
      · rename_i hc
        split at h
        · rename_i l hl
          cases h
          obtain ⟨_, hgen, hlen, h0, hbig⟩ := hc
          have hxs := edgesOf_eq hl
          subst hxs
          rw [List.length_map] at hgen hlen h0 hbig
          subst hgen
          subst hlen
          refine ⟨fun w vs => enters_call enters Try.func61 rfl w vs, fun w M θ vs hs ha => ?_⟩
          obtain ⟨u, v, rfl, hu, hv⟩ := two_args ha
          have hu' : Cell M θ (.row 4 id l.length 0 l.length false) u := hu
          have hv' : Cell M θ (.fn 62 [] []) v := hv
          have hlt : id < σ.length := (List.getElem?_eq_some_iff.1 hx).1
          have hob := hs.ob id _ hx
          obtain ⟨o0, o1, o2, o3, b, cap, o4, o5, o6, o7⟩ := hob
          rw [List.length_map] at o4 o5
          cases hv' with
          | fn f fi ca fu cu h1 h2 h3 h4 =>
            have e1 : fu = #[] := Array.eq_empty_of_size_eq_zero (by simpa using h1)
            have e2 : cu = #[] := Array.eq_empty_of_size_eq_zero (by simpa using h2)
            subst e1
            subst e2
            cases hu' with
            | row _ _ _ _ _ _ a cap' cap2 b2 ht k1 kg km kb kc ka =>
              rw [o4] at ht
              cases ht
              cases b with
              | none =>
                have := o7.2
                omega
              | some g =>
                obtain ⟨cur, e, q1, q2, q3⟩ := o7
                have hap : a = some ⟨g, 0, none⟩ := by
                  rcases ka with h | ⟨g', h, h'⟩
                  · simp at kc; omega
                  · cases h; simpa using h'
                subst hap
                have hH := holds_row q1 q2 o5 q3
                have hblk : g < w.heap.size := (Array.getElem?_eq_some_iff.1 q1).1
                have hcon := sort_all g cap' l w hH hblk (by simpa using hbig)
                refine hcon.mono ?_
                rintro ex w' ⟨rfl, n, os, rfl⟩
                obtain ⟨s1, s2, s3, s4, s5, s6⟩ := sortWorld_facts (n := n) (cap := cap) (l := sortE l) (os := os) q1
                have hll := sortE_len l
                have own : ∀ k, OwnAt θ σ id k ↔ k = g := fun k => by
                  unfold OwnAt
                  rw [hx]
                  simp only [List.length_map, o4, Option.some.injEq, Prod.mk.injEq]
                  constructor
                  · rintro ⟨_, _, h, _⟩; exact h.symm
                  · rintro rfl; exact ⟨_, _, rfl, rfl, rfl⟩
                obtain ⟨r1, r2⟩ := row_put (M := M) (θ := θ) (l := sortE l) (cap := cap) (cur := cur) q2 (by rw [hll]; exact o5)
                obtain ⟨p1, p2⟩ := set_ext (w' := Go.Proofs.sortWorldK encE 4 w g 0 n (sortE l).toArray os) (θ' := θ) (x' := .row 4 ((sortE l).map edgeA)) hs hx θ.le_refl (fun j hj => ⟨fun _ => rfl, rfl⟩)
                  (fun k hk hno => s5 k hk (fun he => hno ((own k).2 he)))
                  (fun g' hg' => by
                    rw [ownAt_set hlt] at hg'
                    obtain ⟨c2, s, hg'⟩ := hg'
                    rw [List.length_map, hll, o4] at hg'
                    cases hg'
                    exact .inl ((own g).2 rfl))
                  ⟨o0, fun gn x hgx => (by rw [List.length_map, hll]; have := o1 gn x hgx; rwa [List.length_map] at this), o2, fun x hx => by
                    obtain ⟨z, _, rfl⟩ := List.mem_map.1 hx
                    rfl, some g, cap, by rw [List.length_map, hll]; exact o4, by rw [List.length_map, hll]; exact o5, o6, _, e, s6, r2, r1⟩
                  s1 s2 s3 s4
                exact ⟨_, M, θ, rfl, p1, p2, rep_unit⟩
        · cases h
      · cases h
    · cases h
  · cases h

end Go.Can
