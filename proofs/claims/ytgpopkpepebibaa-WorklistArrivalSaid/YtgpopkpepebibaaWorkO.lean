/- slices.Insert of one number: the library's contracts at this program, and the road that they leave out. -/
import Derived.Test.YtgpopkpepebibaaWorkA
import Derived.Shelf.Spec.SlicesInsertGrow
set_option linter.unusedSimpArgs false
set_option linter.unusedVariables false
namespace Go.Can
open Go Go.Proofs Go.Shelf Go.RowKit Go.Lib

def insF : FuncId → FuncId
  | 21 => 28
  | 27 => 32
  | 28 => 33
  | 35 => 34
  | 39 => 35
  | f => f

theorem zero_run {P : Program} {t : TypeId} {v : Value} (h : (P.info? t).bind (·.zero) = some v) (w : World) : (zeroValue t).run P w = .ok v w := by
  cases e : P.info? t with
  | none => rw [e] at h; cases h
  | some i =>
    rw [e] at h
    simp at h
    simp [zeroValue, typeInfo, e, h]

def insRen : Ren := ⟨insF, fun t => t, fun g => g⟩

theorem insLays : Lays2.n21 Try.prog insRen where
  mixed := by kernel_rfl
  f21 := by kernel_rfl
  f27 := by kernel_rfl
  f28 := by kernel_rfl
  f35 := by kernel_rfl
  f39 := by kernel_rfl
  t0 := by kernel_rfl
  a0 := fun w => aggT_run (b := false) (by kernel_rfl) w
  z0 := fun w => szOf_run (by kernel_rfl) w
  v0 := zero_run (by kernel_rfl)
  t3 := by kernel_rfl
  a3 := fun w => aggT_run (b := false) (by kernel_rfl) w
  z3 := fun w => szOf_run (by kernel_rfl) w
  v3 := zero_run (by kernel_rfl)
  t4 := by kernel_rfl
  a4 := fun w => aggT_run (b := false) (by kernel_rfl) w
  z4 := fun w => szOf_run (by kernel_rfl) w
  v4 := zero_run (by kernel_rfl)
  t22 := by kernel_rfl
  a22 := fun w => aggT_run (b := false) (by kernel_rfl) w
  z22 := fun w => szOf_run (by kernel_rfl) w
  v22 := zero_run (by kernel_rfl)
  i3 := by kernel_rfl

theorem heap_of_cell {w : World} {b o : Nat} {v : Value} (h : w.cell? ⟨b, o, none⟩ = some v) : ∃ c e fr, w.heap[b]? = some (.cells c e fr) ∧ c[o]? = some v := by
  unfold World.cell? at h
  split at h
  · rename_i c e fr hh
    exact ⟨c, e, fr, hh, by simpa using h⟩
  · cases h

/-- Two slices in two blocks do not overlap, whatever the first one's block is, if the second one's bears no mark. -/
theorem ov_run {w : World} {vb voff vc b o lb cb : Nat} {x : Value} {cur : Array Value} {e : TypeId} (hne : vb ≠ b) (hb : w.heap[b]? = some (.cells cur e (0, 0))) (hc : cur.size ≠ 0) (ha : w.cell? ⟨vb, voff, none⟩ = some x) :
    (callFunc 32 #[.slice (some ⟨vb, voff, none⟩) 1 vc, .slice (some ⟨b, o, none⟩) lb cb]).run Try.prog w = .ok (.value (.bool false)) w := by
  obtain ⟨c1, e1, fr, h1, h2⟩ := heap_of_cell ha
  have hc1 : c1.size ≠ 0 := by
    have := (Array.getElem?_eq_some_iff.1 h2).1
    omega
  have s1 : w.shape? vb = some (e1, c1.size) := by simp [World.shape?, h1]
  have s2 : w.shape? b = some (e, cur.size) := by simp [World.shape?, hb]
  have f2 : ∀ k, w.frozen? ⟨b, k, none⟩ = false := fun k => by simp [World.frozen?, hb]
  rw [run_callFunc_extern (f := 32) insLays.f27 (by kernel_rfl) (by kernel_rfl) (by kernel_rfl) (e := Extern.SlicesOverlaps.overlaps #[22, 22] #[4]) (by kernel_rfl)]
  have hnb : (vb != b) = true := by simpa using hne
  have hnb' : (vb == b) = false := by simpa using hne
  have key : (Extern.SlicesOverlaps.overlaps #[22, 22] #[4] #[.slice (some ⟨vb, voff, none⟩) 1 vc, .slice (some ⟨b, o, none⟩) lb cb]).run Try.prog w = .ok (.bool false) w := by
    cases hcs : cur.size with
    | zero => exact absurd hcs hc
    | succ k =>
      cases hcs1 : c1.size with
      | zero => exact absurd hcs1 hc1
      | succ k1 =>
        rw [hcs] at s2
        rw [hcs1] at s1
        have hbind : ∀ {α β : Type} (s : Sem α) (f : α → Sem β), s.bind f = s >>= f := fun _ _ => rfl
        have hpure : ∀ {α : Type} (a : α), (Sem.pure a : Sem α) = pure a := fun _ => rfl
        conv in (Extern.SlicesOverlaps.overlaps _ _ _) => whnf
        have hu : Try.prog.underlying (#[22, 22] : Array TypeId)[0] = some (.slice 3) := un22
        simp only [hbind, hpure, hu, Sem.run_bind, Sem.run_pure, Result.andThen_ok, szOf_run sz3]
        cases hf1 : w.frozen? ⟨vb, voff, none⟩ <;> cases hf2 : w.frozen? ⟨vb, k1 + 1, none⟩ <;>
          simp [frozen, noView, viewAt, mayBeOne, stringish, shape, Sem.run, s1, s2, f2, hf1, hf2, hnb, hnb', hu, szOf_run sz3]
  rw [key]; rfl

set_option maxHeartbeats 4000000 in
set_option maxRecDepth 100000 in
/-- There is room, and the place lies ahead of the end: in place. -/
theorem ins_shift {g n c i vb voff vc : Nat} {cs : List Value} {x : Value} {w : World} {cur : Array Value} {e : TypeId} (hi : i < n) (hroom : n + 1 ≤ c) (hc63 : c ≤ 9223372036854775807) (hvb : vb ≠ g) (hcl : cs.length = n)
    (hg : w.heap[g]? = some (.cells cur e (0, 0))) (hcz : cur.size = c) (hcs : ∀ j v, cs[j]? = some v → w.cell? ⟨g, j, none⟩ = some v) (hv : w.cell? ⟨vb, voff, none⟩ = some x) (h1c : ∀ v ∈ cs, v.oneCell' = true) (h1x : x.oneCell' = true) :
    Calls Try.prog 28 #[.slice (some ⟨g, 0, none⟩) n c, .int .i64 i, .slice (some ⟨vb, voff, none⟩) 1 vc] w fun e w' =>
      e = .returned (.slice (some ⟨g, 0, none⟩) (n + 1) c) ∧ w' = (w.drew.setCells g (i + 1) (cs.drop i)).setCells g i [x] := by
  have hsome : ∀ j, j < n + 1 → (w.cell? ⟨g, j, none⟩).isSome = true := fun j hj => by
    have : j < cur.size := by omega
    simp [World.cell?, hg, this]
  have hfroz : ∀ j, w.frozen? ⟨g, j, none⟩ = false := fun j => by simp [World.frozen?, hg]
  have hov : ∀ lb cb, (callFunc 32 #[.slice (some ⟨vb, voff, none⟩) 1 vc, .slice (some ⟨g, i + 1, none⟩) lb cb]).run Try.prog w = .ok (.value (.bool false)) w := fun lb cb => ov_run hvb hg (by omega) hv
  have hdl : (cs.drop i).length = n - i := by rw [List.length_drop, hcl]
  have mixed := insLays.mixed
  have hsz : (Try.prog.info? 3).map (·.size) = some 1 := by kernel_rfl
  have nz : ¬ ((i : Int) = (n : Int)) := by omega
  have wr : IntKind.i64.wrap ((i : Int) + 1) = (i : Int) + 1 := by rw [IntKind.wrap_i64]; omega
  have wn : IntKind.i64.wrap ((n : Int) + 1) = (n : Int) + 1 := by rw [IntKind.wrap_i64]; omega
  have tn : ((i : Int) + 1).toNat = i + 1 := by omega
  have tn2 : ((n : Int) + 1).toNat = n + 1 := by omega
  have ge0 : (0 : Int) ≤ (i : Int) + 1 := by omega
  have ge1 : (0 : Int) ≤ (n : Int) + 1 := by omega
  have le1 : (n : Int) + 1 ≤ (c : Int) := by omega
  have le2 : (i : Int) + 1 ≤ (n : Int) + 1 := by omega
  have le3 : (i : Int) ≤ (n : Int) + 1 := by omega
  have lt1 : ¬ ((c : Int) < (n : Int) + 1) := by omega
  have ne1 : ¬ (c = i + 1) := by omega
  have ne2 : ¬ (c = i) := by omega
  have first : ∀ ty dc sc, (Builtin.copy_ #[22, 22] ty #[.slice (some ⟨g, i + 1, none⟩) (n - i) dc, .slice (some ⟨g, i, none⟩) (n + 1 - i) sc]).run Try.prog w.drew = .ok (goInt (cs.drop i).length) (w.drew.setCells g (i + 1) (cs.drop i)) := fun ty dc sc =>
    run_copy_cells w.drew _ _ ty 3 g (i + 1) (n - i) dc ⟨g, i, none⟩ (n + 1 - i) sc (cs.drop i) un22 hsz (by rw [hdl]; simp only [Nat.min_def]; split <;> omega)
      (fun j v hj => by rw [Addr.add_lit]; exact hcs (i + j) v (by rwa [List.getElem?_drop] at hj)) (fun j hj => hsome _ (by omega)) (fun j _ => hfroz _) (fun v hv => h1c v (List.mem_of_mem_drop hv))
  obtain ⟨W1, hW1⟩ : ∃ W1, W1 = w.drew.setCells g (i + 1) (cs.drop i) := ⟨_, rfl⟩
  have hsome1 : ∀ k, k < n + 1 → (W1.cell? ⟨g, k, none⟩).isSome = true := fun k hk => by
    rw [hW1]
    exact isSome_setCells g (cs.drop i) (i + 1) w.drew (fun j hj => hsome (i + 1 + j) (by rw [hdl] at hj; omega)) k (hsome k hk)
  have second : ∀ (W : World), (∀ a, W.cell? a = W1.cell? a) → (∀ a, W.frozen? a = W1.frozen? a) → ∀ ty dc, (Builtin.copy_ #[22, 22] ty #[.slice (some ⟨g, i, none⟩) (n + 1 - i) dc, .slice (some ⟨vb, voff, none⟩) 1 vc]).run Try.prog W = .ok (goInt [x].length) (W.setCells g i [x]) := fun W hc hf ty dc =>
    run_copy_cells W _ _ ty 3 g i (n + 1 - i) dc ⟨vb, voff, none⟩ 1 vc [x] un22 hsz (by simp only [List.length_cons, List.length_nil, Nat.min_def]; split <;> omega)
      (fun j v hj => by
        cases j with
        | zero =>
          cases hj
          rw [Addr.add_lit, hc, hW1, World.cell?_setCells_out g _ _ _ _ (fun h _ => absurd h hvb)]
          exact hv
        | succ j => simp at hj)
      (fun j hj => by rw [hc]; exact hsome1 _ (by simp at hj; omega)) (fun j _ => by rw [hf, hW1, World.frozen?_setCells]; exact hfroz _) (fun v hv => by simp at hv; rw [hv]; exact h1x)
  rw [← hW1] at first ⊢
  go_enter Try.func28, Try.ntmps28
  go_wp2_with (simp only [hov])
  go_region_law_o (refine step_copy_runI rfl _ _ 22 22 rfl _ _ (by simp [Act.eval, Act.put]) (by simp [Act.eval, Act.put]) (first _ _ _) ?_)
  go_wp2_with (at_builtin; refine wpList_copy_runI _ rfl _ _ 22 22 rfl _ _ rfl rfl (second _ (fun _ => rfl) (fun _ => rfl) _ _) ?_)
  go_ret
  exact ⟨rfl, by rw [hW1]⟩

theorem heap_setCells {b : Nat} : ∀ {vs : List Value} {o : Nat} {w : World} {cur : Array Value} {e : TypeId} {fr : Nat × Nat}, w.heap[b]? = some (.cells cur e fr) →
    (∃ cur', (w.setCells b o vs).heap[b]? = some (.cells cur' e fr) ∧ cur'.size = cur.size) ∧ (∀ k, k ≠ b → (w.setCells b o vs).heap[k]? = w.heap[k]?) ∧ (w.setCells b o vs).heap.size = w.heap.size ∧
      (w.setCells b o vs).os = w.os ∧ (w.setCells b o vs).tape = w.tape ∧ (w.setCells b o vs).output = w.output
  | [], _, _, cur, _, _, h => ⟨⟨cur, h, rfl⟩, fun _ _ => rfl, rfl, rfl, rfl, rfl⟩
  | v :: vs, o, w, cur, e, fr, h => by
    have h1 : (w.setCell ⟨b, o, none⟩ v).heap[b]? = some (.cells (cur.setIfInBounds o v) e fr) := by simp [World.setCell, Array.getElem?_modify, h]
    obtain ⟨⟨cur', a1, a2⟩, a3, a4, a5, a6, a7⟩ := heap_setCells (vs := vs) (o := o + 1) h1
    refine ⟨⟨cur', a1, by rw [a2]; simp⟩, fun k hk => (a3 k hk).trans ?_, a4.trans ?_, a5, a6, a7⟩
    · simp only [World.setCell, Array.getElem?_modify]
      rw [if_neg (by intro e; exact hk e.symm)]
    · simp [World.setCell]

/-- What Insert leaves, whichever road it takes. -/
def InsPost (w : World) (a : Option Addr) (n c : Nat) (ys : List Value) (e : Ending) (w' : World) : Prop :=
  ∃ g cur et cap, e = .returned (.slice (some ⟨g, 0, none⟩) (n + 1) cap) ∧ w'.heap[g]? = some (.cells cur et (0, 0)) ∧ cur.size = cap ∧ n + 1 ≤ cap ∧ cap ≤ maxLen ∧ ((0 < c ∧ a = some ⟨g, 0, none⟩ ∧ cap = c) ∨ w.heap.size ≤ g) ∧
    (∀ k, k < w.heap.size → (0 < c → a ≠ some ⟨k, 0, none⟩) → w'.heap[k]? = w.heap[k]?) ∧ w.heap.size ≤ w'.heap.size ∧ w'.os = w.os ∧ w'.tape = w.tape ∧ w'.output = w.output ∧ ∀ k, k < n + 1 → cur[k]? = ys[k]?

theorem heap_push (w : World) (o : Obj) : (w.alloc o).heap[w.heap.size]? = some o ∧ (∀ k, k < w.heap.size → (w.alloc o).heap[k]? = w.heap[k]?) ∧ (w.alloc o).heap.size = w.heap.size + 1 := by
  refine ⟨?_, fun k hk => ?_, ?_⟩
  · show (w.heap.push o)[w.heap.size]? = _
    simp
  · show (w.heap.push o)[k]? = _
    rw [Array.getElem?_push, if_neg (by omega)]
  · show (w.heap.push o).size = _
    simp

theorem ins_run {a : Option Addr} {n c i vb voff vc : Nat} {cs : List Value} {x : Value} {w : World} (hin : i ≤ n) (hnc : n ≤ c) (hc63 : c ≤ maxLen) (hbig : (n + 1) * 8 ≤ 140737488355328) (hcl : cs.length = n)
    (hv : w.cell? ⟨vb, voff, none⟩ = some x) (h1c : ∀ v ∈ cs, v.oneCell' = true) (h1x : x.oneCell' = true)
    (hrow : c = 0 ∨ ∃ g cur e, a = some ⟨g, 0, none⟩ ∧ w.heap[g]? = some (.cells cur e (0, 0)) ∧ cur.size = c ∧ vb ≠ g ∧ ∀ j v, cs[j]? = some v → w.cell? ⟨g, j, none⟩ = some v) :
    Calls Try.prog 28 #[.slice a n c, .int .i64 i, .slice (some ⟨vb, voff, none⟩) 1 vc] w (InsPost w a n c (cs.take i ++ x :: cs.drop i)) := by
  have hvs : ∀ (j : Nat) (v : Value), [x][j]? = some v → w.cell? ⟨vb, voff + j, none⟩ = some v := fun j v h => by
    cases j with
    | zero => cases h; exact hv
    | succ j => simp at h
  have h1v : ∀ v ∈ [x], v.oneCell' = true := fun v h => by simp at h; rw [h]; exact h1x
  have hm63 : maxLen ≤ 9223372036854775807 := by decide
  by_cases hie : i = n
  · subst hie
    have hys : cs.take i ++ x :: cs.drop i = cs ++ [x] := by rw [List.take_of_length_le (by omega), List.drop_eq_nil_of_le (by omega)]
    rw [hys]
    by_cases hroom : i + 1 ≤ c
    · have hc0 : ¬ c = 0 := by omega
      rcases hrow with hrow | ⟨g, cur, e, rfl, hg, hcz, hne, hcs⟩
      · exact absurd hrow hc0
      have hsome : ∀ j, j < c → (w.cell? ⟨g, j, none⟩).isSome = true := fun j hj => by
        have : j < cur.size := by omega
        simp [World.cell?, hg, this]
      have hfroz : ∀ j, w.frozen? ⟨g, j, none⟩ = false := fun j => by simp [World.frozen?, hg]
      refine (Any2.slices_Insert_int_end_room insLays g 0 i c vb voff 1 vc [x] w (by omega) hroom (by omega) rfl (fun j hj => by rw [Nat.zero_add]; exact hsome _ (by omega)) (fun j _ => hfroz _) hvs h1v).mono ?_
      rintro e' w' ⟨rfl, rfl⟩
      rw [Nat.zero_add]
      obtain ⟨⟨cur', a1, a2⟩, a3, a4, a5, a6, a7⟩ := heap_setCells (vs := [x]) (o := i) hg
      refine ⟨g, cur', e, c, rfl, a1, by rw [a2, hcz], hroom, hc63, .inl ⟨by omega, rfl, rfl⟩, fun k hk hka => a3 k (fun e => hka (by omega) (by rw [e])), by omega, a5, a6, a7, fun k hk => ?_⟩
      have hcell : cur'[k]? = (w.setCells g i [x]).cell? ⟨g, k, none⟩ := by simp [World.cell?, a1]
      rw [hcell]
      by_cases hki : k = i
      · subst hki
        have := World.cell?_setCells_in g [x] k w (fun j hj => by simp at hj; subst hj; exact hsome _ (by omega)) 0 (by simp)
        refine this.trans ?_
        rw [List.getElem?_append_right (by omega), hcl]; simp
      · rw [World.cell?_setCells_out g [x] i w ⟨g, k, none⟩ (fun _ _ => by show k < i ∨ i + 1 ≤ k; omega), List.getElem?_append_left (by omega)]
        rw [List.getElem?_eq_getElem (by omega)]
        exact hcs k _ (List.getElem?_eq_getElem (by omega))
    · refine (Any2.slices_Insert_int_end_grow insLays a i c vb voff 1 vc cs [x] w (by omega) (by omega) (by omega) hbig hcl rfl (fun h => by
        rcases hrow with h0 | ⟨g, _, _, h0, _⟩
        · omega
        · rw [h] at h0; cases h0) (fun ad hd j v hj => by
        rcases hrow with h0 | ⟨g, _, _, h0, _, _, _, hcs⟩
        · have := (List.getElem?_eq_some_iff.1 hj).1; omega
        · rw [hd] at h0; cases h0
          rw [addr_add, Nat.zero_add]; exact hcs j v hj) hvs h1v).mono ?_
      rintro e' w' ⟨rfl, rfl⟩
      obtain ⟨p1, p2, p3⟩ := heap_push w.drew (.cells ((cs ++ [x]).toArray ++ Builtin.zeroCells (Value.int .i64 0).cells (grownCap w (i + 1) c (insRen.t 3) - (i + 1))) (insRen.t 3))
      have ge := grownCap_ge w (i + 1) c (insRen.t 3)
      have hsz : ((cs ++ [x]).toArray ++ Builtin.zeroCells (Value.int .i64 0).cells (grownCap w (i + 1) c (insRen.t 3) - (i + 1))).size = grownCap w (i + 1) c (insRen.t 3) := by
        simp only [Array.size_append, List.size_toArray, List.length_append, List.length_cons, List.length_nil, size_zeroCells, Value.cells, List.size_toArray, hcl]
        omega
      refine ⟨w.heap.size, _, _, _, rfl, p1, hsz, ge, grownCap_le_maxLen w (i + 1) c _ (by simp only [maxLen]; omega), .inr (Nat.le_refl _), fun k hk _ => p2 k hk, by rw [p3]; show w.heap.size ≤ w.heap.size + 1; omega, rfl, rfl, rfl, fun k hk => ?_⟩
      rw [Array.getElem?_append_left (by simp [hcl]; omega)]
      simp
  · have hc0 : ¬ c = 0 := by omega
    rcases hrow with hrow | ⟨g, cur, e, rfl, hg, hcz, hne, hcs⟩
    · exact absurd hrow hc0
    have hsome : ∀ j, j < c → (w.cell? ⟨g, j, none⟩).isSome = true := fun j hj => by
      have : j < cur.size := by omega
      simp [World.cell?, hg, this]
    have ys1 : ∀ k, k < i → (cs.take i ++ x :: cs.drop i)[k]? = cs[k]? := fun k hk => by
      rw [List.getElem?_append_left (by simp; omega), List.getElem?_take_of_lt hk]
    have ys2 : (cs.take i ++ x :: cs.drop i)[i]? = some x := by
      have : (cs.take i).length = i := by simp; omega
      rw [List.getElem?_append_right (by omega), this]; simp
    have ys3 : ∀ k, i < k → (cs.take i ++ x :: cs.drop i)[k]? = cs[k - 1]? := fun k hk => by
      have : (cs.take i).length = i := by simp; omega
      rw [List.getElem?_append_right (by omega), this]
      obtain ⟨m, rfl⟩ : ∃ m, k = i + 1 + m := ⟨k - (i + 1), by omega⟩
      have e1 : i + 1 + m - i = m + 1 := by omega
      rw [e1, List.getElem?_cons_succ, List.getElem?_drop]
      congr 1; omega
    by_cases hroom : n + 1 ≤ c
    · refine (ins_shift (by omega) hroom (by omega) hne hcl hg hcz hcs hv h1c h1x).mono ?_
      rintro e' w' ⟨rfl, rfl⟩
      have hg' : w.drew.heap[g]? = some (.cells cur e (0, 0)) := hg
      obtain ⟨⟨cur1, a1, a2⟩, a3, a4, a5, a6, a7⟩ := heap_setCells (vs := cs.drop i) (o := i + 1) hg'
      obtain ⟨⟨cur2, b1, b2⟩, b3, b4, b5, b6, b7⟩ := heap_setCells (vs := [x]) (o := i) a1
      refine ⟨g, cur2, e, c, rfl, b1, by rw [b2, a2, hcz], hroom, hc63, .inl ⟨by omega, rfl, rfl⟩, fun k hk hka => (b3 k (fun e => hka (by omega) (by rw [e]))).trans (a3 k (fun e => hka (by omega) (by rw [e]))), by rw [b4, a4]; exact Nat.le_refl _, b5.trans a5, b6.trans a6, b7.trans a7, fun k hk => ?_⟩
      have hcell : cur2[k]? = ((w.drew.setCells g (i + 1) (cs.drop i)).setCells g i [x]).cell? ⟨g, k, none⟩ := by simp [World.cell?, b1]
      have hsome1 : ((w.drew.setCells g (i + 1) (cs.drop i)).cell? ⟨g, i, none⟩).isSome = true := isSome_setCells g (cs.drop i) (i + 1) w.drew (fun j hj => hsome _ (by simp at hj; omega)) i (hsome i (by omega))
      rw [hcell]
      by_cases hki : k = i
      · subst hki
        have := World.cell?_setCells_in g [x] k (w.drew.setCells g (k + 1) (cs.drop k)) (fun j hj => by simp at hj; subst hj; exact hsome1) 0 (by simp)
        exact this.trans ys2.symm
      · rw [World.cell?_setCells_out g [x] i _ ⟨g, k, none⟩ (fun _ _ => by show k < i ∨ i + 1 ≤ k; omega)]
        by_cases hlt : k < i
        · rw [World.cell?_setCells_out g (cs.drop i) (i + 1) _ ⟨g, k, none⟩ (fun _ _ => by show k < i + 1 ∨ _; omega), ys1 k hlt, List.getElem?_eq_getElem (by omega)]
          exact hcs k _ (List.getElem?_eq_getElem (by omega))
        · have := World.cell?_setCells_in g (cs.drop i) (i + 1) w.drew (fun j hj => hsome _ (by simp at hj; omega)) (k - (i + 1)) (by simp; omega)
          rw [show i + 1 + (k - (i + 1)) = k by omega] at this
          rw [this, ys3 k (by omega), List.getElem_drop, ← List.getElem?_eq_getElem, show i + (k - (i + 1)) = k - 1 by omega]
    · refine (Any2.slices_Insert_int_grow insLays g 0 n c i vb voff 1 vc cs [x] w (by omega) (by omega) (by omega) (by omega) hbig hcl rfl (fun j v hj => by rw [Nat.zero_add]; exact hcs j v hj) hvs h1c h1v).mono ?_
      rintro e' w' ⟨rfl, rfl⟩
      have ge := grownCap_ge w (n + 1) c (insRen.t 3)
      generalize hG : grownCap w (n + 1) c (insRen.t 3) = G at *
      have le : G ≤ maxLen := by rw [← hG]; exact grownCap_le_maxLen w (n + 1) c _ (by simp only [maxLen]; omega)
      generalize hR : ((cs.take i).toArray ++ Builtin.zeroCells (Value.int .i64 0).cells (n + 1 - i) ++ Builtin.zeroCells (Value.int .i64 0).cells (G - (n + 1))) = ROW
      have hRs : ROW.size = G := by
        rw [← hR]
        simp only [Array.size_append, List.size_toArray, List.length_take, size_zeroCells, Value.cells, hcl]
        simp [Nat.min_def]
        split <;> omega
      obtain ⟨p1, p2, p3⟩ := heap_push w (.cells ROW (insRen.t 3))
      have q1 : (w.alloc (.cells ROW (insRen.t 3))).drew.heap[w.heap.size]? = some (.cells ROW (insRen.t 3) (0, 0)) := p1
      obtain ⟨⟨cur1, a1, a2⟩, a3, a4, a5, a6, a7⟩ := heap_setCells (vs := [x]) (o := i) q1
      have q2 : ((w.alloc (.cells ROW (insRen.t 3))).drew.setCells w.heap.size i [x]).drew.heap[w.heap.size]? = some (.cells cur1 (insRen.t 3) (0, 0)) := a1
      obtain ⟨⟨cur2, b1, b2⟩, b3, b4, b5, b6, b7⟩ := heap_setCells (vs := cs.drop i) (o := i + 1) q2
      refine ⟨w.heap.size, cur2, _, G, rfl, b1, by rw [b2, a2, hRs], by omega, le, .inr (Nat.le_refl _), fun k hk _ => (b3 k (by omega)).trans ((a3 k (by omega)).trans (p2 k hk)), ?_, b5.trans a5, b6.trans a6, b7.trans a7, fun k hk => ?_⟩
      · rw [b4]
        show w.heap.size ≤ ((w.alloc (.cells ROW (insRen.t 3))).drew.setCells w.heap.size i [x]).heap.size
        rw [a4]
        show w.heap.size ≤ (w.alloc (.cells ROW (insRen.t 3))).heap.size
        omega
      · have r0 : ∀ j, j < G → ((w.alloc (.cells ROW (insRen.t 3))).drew.cell? ⟨w.heap.size, j, none⟩) = ROW[j]? := fun j hj => by unfold World.cell?; simp only; rw [q1]; rfl
        have r1 : ∀ j, j < G → (((w.alloc (.cells ROW (insRen.t 3))).drew.setCells w.heap.size i [x]).cell? ⟨w.heap.size, j, none⟩).isSome = true := fun j hj =>
          isSome_setCells w.heap.size [x] i _ (fun j hj => by simp at hj; subst hj; rw [r0 _ (by omega), Array.getElem?_eq_getElem (by omega)]; rfl) j (by rw [r0 _ hj, Array.getElem?_eq_getElem (by omega)]; rfl)
        have hcell : cur2[k]? = (((w.alloc (.cells ROW (insRen.t 3))).drew.setCells w.heap.size i [x]).drew.setCells w.heap.size (i + 1) (cs.drop i)).cell? ⟨w.heap.size, k, none⟩ := by simp [World.cell?, b1]
        rw [hcell]
        by_cases hlt : k < i + 1
        · rw [World.cell?_setCells_out w.heap.size (cs.drop i) (i + 1) _ ⟨w.heap.size, k, none⟩ (fun _ _ => by show k < i + 1 ∨ _; omega)]
          show ((w.alloc (.cells ROW (insRen.t 3))).drew.setCells w.heap.size i [x]).cell? ⟨w.heap.size, k, none⟩ = _
          by_cases hki : k = i
          · subst hki
            have := World.cell?_setCells_in w.heap.size [x] k (w.alloc (.cells ROW (insRen.t 3))).drew (fun j hj => by simp at hj; subst hj; rw [r0 _ (by omega), Array.getElem?_eq_getElem (by omega)]; rfl) 0 (by simp)
            exact this.trans ys2.symm
          · rw [World.cell?_setCells_out w.heap.size [x] i _ ⟨w.heap.size, k, none⟩ (fun _ _ => by show k < i ∨ i + 1 ≤ k; omega), r0 _ (by omega), ys1 k (by omega), ← hR]
            have hki2 : k < (cs.take i).length := by simp; omega
            rw [Array.getElem?_append_left (by simp; omega), Array.getElem?_append_left (by simpa using hki2)]
            simp only [List.getElem?_toArray]
            exact List.getElem?_take_of_lt (by omega)
        · have := World.cell?_setCells_in w.heap.size (cs.drop i) (i + 1) ((w.alloc (.cells ROW (insRen.t 3))).drew.setCells w.heap.size i [x]).drew (fun j hj => r1 _ (by simp at hj; omega)) (k - (i + 1)) (by simp; omega)
          rw [show i + 1 + (k - (i + 1)) = k by omega] at this
          rw [this, ys3 k (by omega), List.getElem_drop, ← List.getElem?_eq_getElem, show i + (k - (i + 1)) = k - 1 by omega]

end Go.Can
