/- The evaluator's word stands for this program: the functions are entered; Insert, which stands for itself, does what it says. -/
import Derived.Test.YtgpopkpepebibaaWorkO
import Derived.Test.YtgpopkpepebibaaCanY
set_option linter.unusedSimpArgs false
set_option linter.unusedVariables false
namespace Go.Can
open Go Go.Proofs Go.RowKit

theorem enters : Enters Try.prog := by
  intro f fn hf _
  have h : Try.prog.funcs.all (fun fn => !(fn.name == "runtime.NumGoroutine")) = true := by kernel_rfl
  rw [Array.all_eq_true] at h
  obtain ⟨hlt, he⟩ := Array.getElem?_eq_some_iff.1 hf
  have := h f hlt
  rw [he] at this
  simpa using this

theorem mixed : Try.prog.follows .mixedOrders = true := by kernel_rfl

set_option maxHeartbeats 1000000 in
theorem ins_callR {args : List AV} {σ σ' : St} {base : Nat} {r : AV} (h : insP args σ base = some (r, σ')) : CallR Try.prog 28 args σ r σ' := by
  unfold insP at h
  split at h
  · rename_i id gen len i x
    split at h
    · rename_i xs hob
      split at h
      · rename_i hc
        cases h
        obtain ⟨_, rfl, rfl, hi0, hin, hbig⟩ := hc
        refine ⟨fun w vs => enters_call enters Try.func28 rfl w vs, fun w M θ vs hs ha => ?_⟩
        obtain ⟨hsz, hat⟩ := ha
        have r0 := hat 0 _ rfl
        have r1 := hat 1 _ rfl
        have r2 := hat 2 _ rfl
        have hvs : vs = #[vs.getD 0 undef, vs.getD 1 undef, vs.getD 2 undef] := by
          apply Array.ext
          · simpa using hsz
          · intro j h1 h2
            simp at hsz
            have : j = 0 ∨ j = 1 ∨ j = 2 := by omega
            rcases this with rfl | rfl | rfl <;> simp [Array.getD_eq_getD_getElem?, hsz]
        rw [hvs]
        generalize vs.getD 0 undef = u0 at *
        generalize vs.getD 1 undef = u1 at *
        generalize vs.getD 2 undef = u2 at *
        clear hvs hat hsz
        have r1' : u1 = .int .i64 i := by cases r1; rfl
        subst r1'
        obtain ⟨k1, k2, k3, k4, b, cap, k5, k6, k7, k8⟩ := hs.ob _ _ hob
        obtain ⟨ni, rfl⟩ : ∃ ni : Nat, i = ni := ⟨i.toNat, by omega⟩
        rw [Int.toNat_natCast]
        have r0' : Cell M θ (.row 1 id xs.length 0 xs.length false) u0 := r0
        have r2' : Cell M θ (.list true 1 [.int .i64 x]) u2 := r2
        clear r0 r1 r2
        cases r2' with
        | list _ _ _ a2 cap2 uu hcl hml hfl hsl hal hel =>
          obtain ⟨vb, voff, rfl, hM⟩ := hal (by simp)
          have hu : uu 0 0 = .int .i64 x := by
            exact (hel 0 _ rfl 0 _ rfl).rep.int
          have hMx : M vb voff = some (.int .i64 x) := by
            have := hM 0 _ rfl 0 _ rfl
            rw [hu] at this; simpa using this
          have hv := hs.mem _ _ _ hMx
          cases r0' with
          | row _ _ _ _ _ _ a0 cap0 cap1 b0 htr h1 hg hmx hb hcap ha =>
            rw [k5] at htr
            simp only [Option.some.injEq, Prod.mk.injEq] at htr
            obtain ⟨rfl, rfl, _⟩ := htr
            simp only [Bool.false_eq_true, if_false, Nat.sub_zero] at hcap
            subst hcap
            have key : ∃ cs : List Value, cs.length = xs.length ∧ (∀ v ∈ cs, v.oneCell' = true) ∧ RowR M θ 1 xs cs.toArray ∧
                (cap0 = 0 ∨ ∃ g cur e, a0 = some ⟨g, 0, none⟩ ∧ b = some g ∧ w.heap[g]? = some (.cells cur e (0, 0)) ∧ cur.size = cap0 ∧ vb ≠ g ∧ ∀ j v, cs[j]? = some v → w.cell? ⟨g, j, none⟩ = some v) := by
              cases b with
              | none =>
                obtain ⟨e1, e2⟩ := k8
                subst e1
                exact ⟨[], rfl, by simp, fun i x hx => by simp at hx, .inl e2⟩
              | some g =>
                obtain ⟨cur, e, p1, p2, p3⟩ := k8
                have hlen : (cur.toList.take xs.length).length = xs.length := by simp; omega
                have hget : ∀ j, j < xs.length → (cur.toList.take xs.length)[j]? = some (cur.getD j undef) := fun j hj => by
                  have hj2 : j < cur.size := by omega
                  rw [List.getElem?_take_of_lt hj]
                  simp [Array.getD_eq_getD_getElem?, hj2]
                refine ⟨cur.toList.take xs.length, hlen, fun v hv => ?_, fun k y hy j c hc => ?_, ?_⟩
                · obtain ⟨j, hj⟩ := List.getElem?_of_mem hv
                  have hjl : j < xs.length := by have := (List.getElem?_eq_some_iff.1 hj).1; omega
                  rw [hget j hjl] at hj
                  have hxj : xs[j]? = some xs[j] := List.getElem?_eq_getElem hjl
                  have h1x := k4 xs[j] (List.getElem_mem hjl)
                  have hc0 : xs[j].cells[0]? = some (xs[j].cells[0]) := List.getElem?_eq_getElem (by omega)
                  have := p3 j _ hxj 0 _ hc0
                  rw [Nat.mul_one, Nat.add_zero] at this
                  cases hj
                  exact this.oneCell
                · have hkl := (List.getElem?_eq_some_iff.1 hy).1
                  have h1x := k4 y (List.mem_of_getElem? hy)
                  have hj0 : j = 0 := by have := (List.getElem?_eq_some_iff.1 hc).1; omega
                  subst hj0
                  have := p3 k y hy 0 c hc
                  rw [Nat.mul_one, Nat.add_zero] at this ⊢
                  have e2 : (cur.toList.take xs.length).toArray.getD k undef = cur.getD k undef := by
                    rw [Array.getD_eq_getD_getElem?, List.getElem?_toArray, hget k hkl]; rfl
                  rw [e2]; exact this
                · by_cases hc0 : cap0 = 0
                  · exact .inl hc0
                  · rcases ha with ha | ⟨g', e1, e2⟩
                    · exact absurd ha hc0
                    · cases e1
                      rw [Nat.zero_mul] at e2
                      refine .inr ⟨g, cur, e, e2, rfl, p1, by omega, fun e3 => ?_, fun j v hj => ?_⟩
                      · have := hs.out g ⟨id, by unfold OwnAt; rw [hob]; exact ⟨_, _, k5⟩⟩ voff
                        rw [← e3, hMx] at this; cases this
                      · have hjl : j < xs.length := by have := (List.getElem?_eq_some_iff.1 hj).1; omega
                        rw [hget j hjl] at hj
                        cases hj
                        have hj2 : j < cur.size := by omega
                        simp [World.cell?, p1, Array.getD_eq_getD_getElem?, hj2]
            obtain ⟨cs, c1, c2, c3, c4⟩ := key
            refine (ins_run (a := a0) (n := xs.length) (c := cap0) (i := ni) (vc := cap2) (by omega) hg hmx (by omega) c1 hv c2 rfl (c4.imp_right fun ⟨g, cur, e, q1, _, q2, q3, q4, q5⟩ => ⟨g, cur, e, q1, q2, q3, q4, q5⟩)).mono ?_
            rintro e w' ⟨g', cur', et, cap', rfl, d1, d2, d3, d4, d5, d6, d7, d8, d9, d10, d11⟩
            have hyl : (xs.take ni ++ AV.int .i64 x :: xs.drop ni).length = xs.length + 1 := by simp; omega
            have hzl : (cs.take ni ++ Value.int .i64 x :: cs.drop ni).length = xs.length + 1 := by simp; omega
            have hown : 0 < cap0 → ∃ g, a0 = some ⟨g, 0, none⟩ ∧ OwnAt θ σ id g := fun hpos => by
              rcases c4 with h0 | ⟨g, cur, e, q1, q2, _⟩
              · omega
              · exact ⟨g, q1, by unfold OwnAt; rw [hob]; exact ⟨_, _, by rw [k5, q2]⟩⟩
            have hrow : RowR M θ 1 (xs.take ni ++ AV.int .i64 x :: xs.drop ni) cur' := by
              intro k y hy j c hc
              have hkl := (List.getElem?_eq_some_iff.1 hy).1
              rw [hyl] at hkl
              have hval := d11 k hkl
              have fin : ∀ (m : Nat), xs[m]? = some y → (cs.take ni ++ Value.int .i64 x :: cs.drop ni)[k]? = cs[m]? → Cell M θ c (cur'.getD (k * 1 + j) undef) := fun m hm hz => by
                have hml := (List.getElem?_eq_some_iff.1 hm).1
                have h1x := k4 y (List.mem_of_getElem? hm)
                have hj0 : j = 0 := by have := (List.getElem?_eq_some_iff.1 hc).1; omega
                subst hj0
                have := c3 m y hm 0 c hc
                rw [Nat.mul_one, Nat.add_zero] at this ⊢
                rw [Array.getD_eq_getD_getElem?, hval, hz]
                rw [Array.getD_eq_getD_getElem?, List.getElem?_toArray] at this
                exact this
              have lt1 : (xs.take ni).length = ni := by simp; omega
              have lt2 : (cs.take ni).length = ni := by simp; omega
              by_cases hlt : k < ni
              · refine fin k ?_ ?_
                · rw [List.getElem?_append_left (by omega), List.getElem?_take_of_lt hlt] at hy; exact hy
                · rw [List.getElem?_append_left (by omega), List.getElem?_take_of_lt hlt]
              · by_cases hke : k = ni
                · subst hke
                  rw [List.getElem?_append_right (by omega), lt1, Nat.sub_self] at hy
                  simp at hy
                  subst hy
                  simp [AV.cells] at hc
                  cases j with
                  | zero =>
                    simp at hc
                    subst hc
                    rw [List.getElem?_append_right (by omega), lt2, Nat.sub_self] at hval
                    rw [Nat.mul_one, Nat.add_zero, Array.getD_eq_getD_getElem?, hval]
                    exact .int _ _
                  | succ j => simp at hc
                · obtain ⟨m, rfl⟩ : ∃ m, k = ni + 1 + m := ⟨k - (ni + 1), by omega⟩
                  have e1 : ni + 1 + m - ni = m + 1 := by omega
                  refine fin (ni + m) ?_ ?_
                  · rw [List.getElem?_append_right (by omega), lt1, e1, List.getElem?_cons_succ, List.getElem?_drop] at hy; exact hy
                  · rw [List.getElem?_append_right (by omega), lt2, e1, List.getElem?_cons_succ, List.getElem?_drop]
            obtain ⟨θ', t1, t2, t3, t4⟩ := row_grow (w' := w') (cap := cap') (g := g') (sz := 1) (ys := xs.take ni ++ AV.int .i64 x :: xs.drop ni) hs hob (.inl (by omega)) (by omega) (fun y hy => by
                rcases List.mem_append.1 hy with hy | hy
                · exact k4 y (List.mem_of_mem_take hy)
                · rcases List.mem_cons.1 hy with rfl | hy
                  · rfl
                  · exact k4 y (List.mem_of_mem_drop hy)) (by omega) d4
              (d5.imp (fun ⟨hpos, ha0, _⟩ => by
                obtain ⟨g, q1, q2⟩ := hown hpos
                rw [ha0] at q1; cases q1; exact q2) (fun h => h)) (fun k hk hno => d6 k hk (fun hpos ha0 => by
                obtain ⟨g, q1, q2⟩ := hown hpos
                rw [ha0] at q1; cases q1; exact hno q2)) ⟨cur', et, d1, by omega, hrow⟩ d7 d8 d9 d10
            rw [hyl] at t2
            refine ⟨_, M, θ', rfl, t3, t4, Cell.rep ?_⟩
            exact .row 1 id (xs.length + 1) 0 (xs.length + 1) false _ cap' cap' (some g') t2 (by omega) d3 d4 (by simp) (by simp) (.inr ⟨g', rfl, by simp⟩)
      · cases h
    · cases h
  · cases h

theorem ins_keep {args : List AV} {σ σ' : St} {base : Nat} {r : AV} (h : insP args σ base = some (r, σ')) : Keep base σ σ' := by
  unfold insP at h
  split at h
  · split at h
    · split at h
      · rename_i hc
        cases h
        exact Keep.set _ _ hc.1
      · cases h
    · cases h
  · cases h

theorem primOk : PrimOk Try.prog cfW := by
  have only : ∀ f p, cfW.prim f = some p → f = 28 ∧ p = insP := by
    intro f p h
    simp only [cfW] at h
    split at h
    · cases h; exact ⟨rfl, rfl⟩
    · cases h
  refine ⟨fun f p args σ base r σ' hp hb h => ?_, fun f p args σ base r σ' hp hb h => ?_, fun f p args σ base r σ' hp hpu h => ?_, fun f p args σ base r σ' hp hpu h => ?_⟩
  · obtain ⟨rfl, rfl⟩ := only f p hp
    exact ins_callR h
  · obtain ⟨rfl, rfl⟩ := only f p hp
    exact ins_keep h
  · obtain ⟨rfl, rfl⟩ := only f p hp
    cases hpu
  · obtain ⟨rfl, rfl⟩ := only f p hp
    cases hpu

theorem good : CallGood Try.prog cfW (callL Try.prog cfW) := callL_good mixed enters primOk

end Go.Can
