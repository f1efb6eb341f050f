/- The operations, eighth part: literals, append. -/
import Derived.Test.YtgcfhcgnkohfkaaCanJ
set_option linter.unusedSimpArgs false
set_option linter.unusedVariables false
namespace Go.Can
open Go Go.RowKit
section
variable {P : Program} {w : World} {M : Mem} {θ : Th} {σ : St} {π : Nat → Option Nat} {env : Env} {o : Oper} {a : Act}

theorem op_build {t : TypeId} {ps : Array (Nat × Operand)} {vs : List (Nat × AV)} {v : AV} (hs : StR w M θ σ) (hf : FrR w M θ σ π env a.tmps) (hd : okDst env o.dst = true) (ho : o.op = .build t ps)
    (hx : lookParts env ps.toList = some vs) (hb : buildA P t vs = some v) : OpS P w M θ σ π o a env σ (.val v) := by
  obtain ⟨h1, h2⟩ := lookParts_sound hf hx
  have hu : ∀ (i : Nat) (k : Nat) (v : AV), vs[i]? = some (k, v) → ∃ u, ((ps.map fun (i, x) => (i, a.eval x)).toList)[i]? = some (k, u) ∧ RepA M θ v u := by
    intro i k v hi
    obtain ⟨x, h3, h4⟩ := h2 i k v hi
    have h3' : ps[i]? = some (k, x) := by simpa using h3
    exact ⟨a.eval x, by simp [h3'], h4⟩
  have hl : ((ps.map fun (i, x) => (i, a.eval x)).toList).length = vs.length := by simp [h1]
  unfold buildA at hb
  split at hb
  · rename_i fs z hfs hz
    split at hb
    · rename_i hall
      obtain ⟨i, zv, z1, z2, z3⟩ := zeroOf_spec hz
      have hall' : ∀ f ∈ fs.toList, ∃ s, szOf P f.type = some s := fun f hf => Option.isSome_iff_exists.1 (List.all_eq_true.1 hall f hf)
      have hm := mapM_sizes (P := P) (w := w) hall'
      cases e : fillA (placeA P fs) z.cells vs with
      | none => rw [e] at hb; cases hb
      | some cs =>
        rw [e] at hb; cases hb
        obtain ⟨cur, h5, h6⟩ := fill_sound (place' := fun i => ((fs.toList.map fun f => (f.offset, (szOf P f.type).getD 0)).toArray)[i]?) (fun i x hx => by
          unfold placeA at hx
          split at hx
          · rename_i f hf
            cases hsz : szOf P f.type with
            | none => rw [hsz] at hx; cases hx
            | some s => rw [hsz] at hx; cases hx; simp [hf, hsz]
          · cases hx) e (ofV_sound z3 M θ).cells hl hu
        refine .sameV (u := .agg cur) hs hf hd ?_ (RepA.rep ⟨cur, rfl, h6⟩)
        have hplaces : (fs.mapM (fun f => (do pure (f.offset, ← sizeOf f.type) : Sem (Nat × Nat)))).run P w = .ok (fs.toList.map fun f => (f.offset, (szOf P f.type).getD 0)).toArray w := by
          rw [Array.mapM_eq_mapM_toList, Sem.run_map, hm]; rfl
        simp only [execOp, ho, Instr.build, Sem.run_bind, zeroValue, typeInfo, run_program, Result.andThen_ok, z1, z2, Sem.run_pure, run_underlying hfs]
        rw [hplaces]
        simp only [Result.andThen_ok, h5, Sem.run_pure]
    · cases hb
  · rename_i n e z hfs hz
    split at hb
    · rename_i s hsz
      obtain ⟨i, zv, z1, z2, z3⟩ := zeroOf_spec hz
      cases e1 : fillA (fun i => some (i * s, s)) z.cells vs with
      | none => rw [e1] at hb; cases hb
      | some cs =>
        rw [e1] at hb; cases hb
        obtain ⟨cur, h5, h6⟩ := fill_sound (place' := fun i => some (i * s, s)) (fun i x hx => hx) e1 (ofV_sound z3 M θ).cells hl hu
        refine .sameV (u := .agg cur) hs hf hd ?_ (RepA.rep ⟨cur, rfl, h6⟩)
        simp only [execOp, ho, Instr.build, Sem.run_bind, zeroValue, typeInfo, run_program, Result.andThen_ok, z1, z2, Sem.run_pure, run_underlying hfs, szOf_run hsz, h5]
    · cases hb
  · cases hb

theorem listA_fill {sz : Nat} : ∀ {vs : List (Nat × AV)} {us : List (Nat × Value)} {n : Nat} {xs : List AV} {cur : Array Value}, listA sz n vs = some xs → us.length = vs.length →
    (∀ (i : Nat) (k : Nat) (v : AV), vs[i]? = some (k, v) → ∃ u, us[i]? = some (k, u) ∧ RepA M θ v u) → (n + vs.length) * sz ≤ cur.size →
    ∃ cur', Instr.fill (fun i => some (i * sz, sz)) cur us = some cur' ∧ cur'.size = cur.size ∧ xs.length = vs.length ∧ (∀ x ∈ xs, x.cells.length = sz) ∧ (∀ p, p < n * sz → cur'[p]? = cur[p]?) ∧
      ∀ i x, xs[i]? = some x → ∀ j c, x.cells[j]? = some c → Cell M θ c (cur'.getD ((n + i) * sz + j) undef)
  | [], us, n, xs, cur, h, hl, hu, hb => by
    have : us = [] := List.eq_nil_of_length_eq_zero (by simpa using hl)
    subst this
    simp only [listA] at h; cases h
    exact ⟨cur, rfl, rfl, rfl, by simp, fun _ _ => rfl, by simp⟩
  | (k, v) :: vs, us, n, xs, cur, h, hl, hu, hb => by
    cases us with
    | nil => simp at hl
    | cons p us =>
      obtain ⟨u, h1, h2⟩ := hu 0 k v rfl
      simp at h1; subst h1
      simp only [listA] at h
      split at h
      · rename_i hc
        simp only [Bool.and_eq_true, beq_iff_eq] at hc
        obtain ⟨rfl, hsz⟩ := hc
        cases e : listA sz (k + 1) vs with
        | none => rw [e] at h; cases h
        | some xs' =>
          rw [e] at h; cases h
          have hcu := h2.cells
          have hus : u.cells.size = sz := by rw [hcu.1, hsz]
          obtain ⟨f1, f2⟩ := foldl_set u.cells.toList 0 (k * sz) cur
          have hb1 : (k + 1 + vs.length) * sz ≤ cur.size := by
            have : k + 1 + vs.length = k + (vs.length + 1) := by omega
            rw [this]; simpa using hb
          have hb2 : k * sz + sz ≤ cur.size := by
            have h3 : (k + 1) * sz ≤ (k + 1 + vs.length) * sz := Nat.mul_le_mul_right _ (by omega)
            rw [Nat.add_mul k 1, Nat.one_mul] at h3; omega
          have e2 : u.cells.zipIdx.foldl (fun cs (p : Value × Nat) => cs.setIfInBounds (k * sz + p.2) p.1) cur = (u.cells.toList.zipIdx 0).foldl (fun cs (p : Value × Nat) => cs.setIfInBounds (k * sz + p.2) p.1) cur := by
            rw [← Array.foldl_toList, Array.toList_zipIdx]
          obtain ⟨cur', g1, g2, g3, g4, g5, g6⟩ := listA_fill (cur := (u.cells.toList.zipIdx 0).foldl (fun cs (p : Value × Nat) => cs.setIfInBounds (k * sz + p.2) p.1) cur) e (by simpa using hl)
            (fun i k' v' hi => by simpa using hu (i + 1) k' v' (by simpa using hi)) (by rw [f1]; exact hb1)
          refine ⟨cur', ?_, by rw [g2, f1], by simp [g3], fun x hx => ?_, fun p hp => ?_, fun i x hx j c hj => ?_⟩
          · simp only [Instr.fill]
            rw [if_neg (by simp only [ne_eq, Bool.or_eq_true, decide_eq_true_eq, not_or, Decidable.not_not]; omega), ← g1, ← e2]
          · rcases List.mem_cons.1 hx with rfl | hx
            · exact hsz
            · exact g4 x hx
          · rw [g5 p (by rw [Nat.add_mul]; omega), f2, if_neg (by omega)]
          · cases i with
            | zero =>
              simp at hx; subst hx
              have hj' : j < sz := by rw [← hsz]; exact (List.getElem?_eq_some_iff.1 hj).1
              have hjl : j < u.cells.size := by omega
              have e3 : cur'.getD ((k + 0) * sz + j) undef = u.cells.getD j undef := by
                simp only [Array.getD_eq_getD_getElem?, Nat.add_zero]
                rw [g5 _ (by rw [Nat.add_mul]; omega), f2, if_pos (by simp only [Array.length_toList]; omega)]
                have : k * sz + j - (k * sz + 0) = j := by omega
                rw [this, Array.getElem?_toList]
              rw [e3]; exact hcu.2 j c hj
            | succ i =>
              have e4 : k + (i + 1) = k + 1 + i := by omega
              rw [e4]; exact g6 i x (by simpa using hx) j c hj
      · cases h

/-- A new block that nobody will write. -/
theorem mem_new {cur : Array Value} {e : TypeId} (hs : StR w M θ σ) : Ext0 w M θ σ (w.alloc (.cells cur e)) (fun g o => if g = w.heap.size then cur[o]? else M g o) θ σ ∧
    StR (w.alloc (.cells cur e)) (fun g o => if g = w.heap.size then cur[o]? else M g o) θ σ := by
  have hmlt : ∀ g o v, M g o = some v → g < w.heap.size := fun g o v e => World.block_lt_of_cell? w _ (hs.mem g o v e)
  have hle : M.le (fun g o => if g = w.heap.size then cur[o]? else M g o) := fun g o v h => by
    have := hmlt g o v h
    show (if g = w.heap.size then cur[o]? else M g o) = some v
    rw [if_neg (by omega)]; exact h
  have hk : ∀ k, k < w.heap.size → (w.alloc (.cells cur e)).heap[k]? = w.heap[k]? := fun k h => Below.heap_alloc w _ k h
  refine ⟨⟨rfl, rfl, rfl, by simp, hle, θ.le_refl, fun g hg _ _ => hk g hg, fun _ h => .inl h, fun _ _ h => by simp at h, fun g o v h => ?_⟩, ⟨fun g o v h => ?_, fun id x hx => ?_, hs.dis, fun g ho o => ?_, hs.far⟩⟩
  · have h : (if g = w.heap.size then cur[o]? else M g o) = some v := h
    split at h
    · rename_i e1; exact .inr (.inl (by omega))
    · exact .inl h
  · have h : (if g = w.heap.size then cur[o]? else M g o) = some v := h
    split at h
    · rename_i e1; subst e1
      rw [cell_of_row _ _ _ cur e (0, 0) (heap_new w _)]; simpa using h
    · have := hs.mem g o v h
      have hlt := hmlt g o v h
      simpa [World.cell?, hk g hlt] using this
  · exact (hs.ob id x hx).keep hle hx (fun g hg => hk g (hg.lt hs))
  · obtain ⟨i, hi⟩ := ho
    have hlt := hi.lt hs
    show (if g = w.heap.size then cur[o]? else M g o) = none
    rw [if_neg (by omega)]; exact hs.out g ⟨i, hi⟩ o

theorem op_buildSlice {t e : TypeId} {n sz bytes : Nat} {ps : Array (Nat × Operand)} {vs : List (Nat × AV)} {xs : List AV} (hs : StR w M θ σ) (hf : FrR w M θ σ π env a.tmps) (hd : okDst env o.dst = true) (ho : o.op = .buildSlice t n ps)
    (ht : elemT P t = some (e, sz, bytes)) (hx : lookParts env ps.toList = some vs) (hn : vs.length = n) (hlim : n * sz ≤ 16777216) (hz : (zeroOf P e).isSome = true) (hsz0 : 0 < sz) (hl : listA sz 0 vs = some xs) :
    OpS P w M θ σ π o a env σ (.val (.list true sz xs)) := by
  obtain ⟨h1, h2⟩ := lookParts_sound hf hx
  obtain ⟨hu, i, hi1, hi2, hi3⟩ := elemT_spec ht
  obtain ⟨z, hz⟩ := Option.isSome_iff_exists.1 hz
  obtain ⟨i', zv, z1, z2, z3⟩ := zeroOf_spec hz
  rw [hi1] at z1; cases z1
  have hu' : ∀ (i : Nat) (k : Nat) (v : AV), vs[i]? = some (k, v) → ∃ u, ((ps.map fun (i, x) => (i, a.eval x)).toList)[i]? = some (k, u) ∧ RepA M θ v u := by
    intro i k v hi
    obtain ⟨x, h3, h4⟩ := h2 i k v hi
    have h3' : ps[i]? = some (k, x) := by simpa using h3
    exact ⟨a.eval x, by simp [h3'], h4⟩
  have hl' : ((ps.map fun (i, x) => (i, a.eval x)).toList).length = vs.length := by simp [h1]
  have key : ∀ zero : Array Value, ∃ cur', Instr.fill (fun i => some (i * sz, sz)) ((Array.range (n * sz)).map (zero[· % zero.size]!)) (ps.map fun (i, x) => (i, a.eval x)).toList = some cur' ∧ cur'.size = n * sz ∧ xs.length = vs.length ∧ (∀ x ∈ xs, x.cells.length = sz) ∧
      ∀ i x, xs[i]? = some x → ∀ j c, x.cells[j]? = some c → Cell M θ c (cur'.getD ((0 + i) * sz + j) undef) := by
    intro zero
    obtain ⟨cur', g1, g2, g3, g4, g5, g6⟩ := listA_fill (M := M) (θ := θ) (cur := (Array.range (n * sz)).map (zero[· % zero.size]!)) hl hl' hu' (by simp [hn])
    exact ⟨cur', g1, by simpa using g2, g3, g4, g6⟩
  have fin : ∀ cur' : Array Value, cur'.size = n * sz → xs.length = vs.length → (∀ x ∈ xs, x.cells.length = sz) → (∀ i x, xs[i]? = some x → ∀ j c, x.cells[j]? = some c → Cell M θ c (cur'.getD ((0 + i) * sz + j) undef)) →
      (execOp a.eval o).run P w = .ok (.value (.slice (some ⟨w.heap.size, 0, none⟩) n n)) (w.alloc (.cells cur' e)) → OpS P w M θ σ π o a env σ (.val (.list true sz xs)) := by
    intro cur' k1 k2 k3 k4 hrun
    obtain ⟨q1, q2⟩ := mem_new (cur := cur') (e := e) hs
    refine .goV hf hd hrun q1 q2 (Cell.rep ?_)
    have hln : xs.length = n := by omega
    have := Cell.list (M := fun g o => if g = w.heap.size then cur'[o]? else M g o) (θ := θ) true sz xs (some ⟨w.heap.size, 0, none⟩) n (fun i j => cur'.getD (i * sz + j) undef) (by omega) (by
        have : n * 1 ≤ n * sz := Nat.mul_le_mul_left _ hsz0
        simp only [maxLen]; omega) (fun _ => hln.symm) k3 (fun _ => ⟨w.heap.size, 0, rfl, fun i x hx j c hj => ?_⟩) (fun i x hx j c hj => ?_)
    · rw [hln] at this; exact this
    · have hj' : j < sz := by rw [← k3 x (List.mem_of_getElem? hx)]; exact (List.getElem?_eq_some_iff.1 hj).1
      have hi' : i < n := by rw [← hln]; exact (List.getElem?_eq_some_iff.1 hx).1
      have hb : i * sz + j < cur'.size := by
        rw [k1]
        have h6 : i * sz + j < (i + 1) * sz := by rw [Nat.add_mul]; omega
        exact Nat.lt_of_lt_of_le h6 (Nat.mul_le_mul_right _ (by omega))
      simp [Array.getD_eq_getD_getElem?, hb]
    · have := k4 i x hx j c hj
      rw [Nat.zero_add] at this
      exact this.mono q1.m θ.le_refl
  have hlim' : ¬ (n * sz > 2 ^ 24) := by omega
  by_cases h0 : n * sz = 0
  · obtain ⟨cur', g1, g2, g3, g4, g6⟩ := key #[]
    refine fin cur' g2 g3 g4 g6 ?_
    simp only [execOp, ho, Instr.buildSlice, Sem.run_bind, run_underlying hu, Result.andThen_ok, sizeOf, typeInfo, run_program, hi1, hi2, Sem.run_pure, if_neg hlim', if_pos h0]
    rw [g1]
    simp [newRow]
  · obtain ⟨cur', g1, g2, g3, g4, g6⟩ := key zv.cells
    refine fin cur' g2 g3 g4 g6 ?_
    simp only [execOp, ho, Instr.buildSlice, Sem.run_bind, run_underlying hu, Result.andThen_ok, sizeOf, typeInfo, run_program, hi1, hi2, Sem.run_pure, if_neg hlim', if_neg h0, zeroValue, z2]
    rw [g1]
    simp [newRow]

end
end Go.Can
